/-
  Several texts in one, in their build order. A strings.Builder that the call made: what it holds, and what writing and reading it do. Conditions: as they stand (lengths). Contracts of the kit's shelf laid at this program, in plain words, written by the kit's tool. No condition. The walk of Escape (package magnet). Condition: the text is small. Bytes that lie in a block, whoever laid them: read, written, made a text; what '[]byte(s)' lays. Plain facts over the program. No condition.
-/
import Derived.Test.YtbgmkplpolgebaaGreatDoorM3
import Derived.Test.YtbgmkplpolgebaaGreatDoorM1
import Derived.Shelf.Strings.BuilderK
import Derived.Shelf.Strings.Builder1
import Derived.Shelf.Strings.Builder2
import Derived.Shelf.Strings.OnBuilder
import Derived.Shelf.Small.Utf8
import Derived.Shelf.Small.Bits
import Derived.Shelf.Small.Strs
import Derived.Shelf.Small.Wraps
import Derived.Shelf.Strings.BuilderF
import Derived.Shelf.Strconv.Atoi
import Derived.Shelf.Strconv.Itoa0
import Derived.Shelf.Strconv.Itoa1
import Derived.Shelf.LaysM
import Derived.Shelf.Strconv.Itoa2
import Derived.Shelf.Strconv.Itoa3
import Derived.Shelf.Strconv.AtoiErrFast
import Derived.Shelf.Strconv.ParseIntEmpty
import Derived.Shelf.Strconv.AtoiFail
import Derived.Shelf.Strconv.Clone
import Derived.Shelf.Strconv.SyntaxError
import Derived.Shelf.LaysC
import Derived.Shelf.Strconv.ToError
import Derived.Shelf.Strconv.Lower
import Derived.Shelf.Strconv.ParseUint10
import Derived.Shelf.Strconv.ParseUint10Empty
import Derived.Shelf.Strconv.ParseUint10Any
import Derived.Shelf.Strconv.ParseInt10
import Derived.Shelf.Strconv.AtoiLong
import Derived.Shelf.Strconv.AtoiInnerAll
import Derived.Shelf.Strconv.RangeError
import Derived.Shelf.Strconv.ToErrorRange
import Derived.Shelf.Strconv.AtoiAll
import Derived.Shelf.Strconv.ErrVarAll
import Derived.Shelf.Strings.Search1
import Derived.Shelf.Strings.Search2
import Derived.Shelf.Strings.Search3
import Derived.Shelf.Strings.Cut
import Derived.Shelf.Strings.Count
import Derived.Shelf.Strings.Shaped
import Derived.Shelf.Strings.LastIndex
import Derived.Shelf.Strings.Prefix
import Derived.Shelf.Strings.Split
import Derived.Shelf.Strings.Replace
import Derived.Shelf.Unicode.Latin
import Derived.Shelf.Unicode.DecodeSlow
import Derived.Shelf.Unicode.CaseLookup
import Derived.Shelf.Unicode.CaseConvert
import Derived.Shelf.Unicode.CaseTo
import Derived.Shelf.Unicode.CaseLaid
import Derived.Shelf.Slices.Equal
import Derived.Shelf.Slices.Empties2
import Derived.Ground.PaProg
import Derived.Shelf.Path.Small
import Derived.Test.YtbgmkplpolgebaaGreatDoorProg
import Derived.Test.YtbgmkplpolgebaaGreatDoorM4
import Derived.Test.YtbgmkplpolgebaaGreatDoorM2
import Derived.Laws.IdiomStrings
namespace Go.Proofs.YtbgmkplpolgebaaGreatDoor
set_option linter.unusedSimpArgs false
set_option linter.unusedVariables false
open Go.Shelf Go.RowKit
def bren : Go.Shelf.Ren := ⟨fun | 167 => 113 | n => Tryz.lays156_ren.f n, Tryz.lays156_ren.t, Tryz.lays156_ren.g⟩
theorem lays166 : Go.Proofs.Lays.n166 Tryz.prog Tryz.lays156_ren := { Tryz.lays156 with }
theorem lays169 : Go.Proofs.Lays.n169 Tryz.prog Tryz.lays156_ren := { Tryz.lays156 with }
theorem lays167 : Go.Proofs.Lays.n167 Tryz.prog bren := { Tryz.lays156 with f167 := Tryz.func113.trans (congrArg some (by kernel_rfl)), f240 := Tryz.lays156.f240.trans (congrArg some (by kernel_rfl)), f276 := Tryz.lays156.f276.trans (congrArg some (by kernel_rfl)), t5 := Tryz.underlying5, a5 := Tryz.isAgg5, z5 := Tryz.sizeOf5, v5 := Tryz.zeroValue5 }
theorem extra167 : Builder.Extra Tryz.prog bren := { sizeBuilder := by kernel_rfl, liesBuilder := by kernel_rfl, t5 := Tryz.underlying5, a5 := Tryz.isAgg5, z5 := Tryz.sizeOf5, v5 := Tryz.zeroValue5, infoByte := by kernel_rfl, cellsByte := by kernel_rfl, sizeByte := by kernel_rfl, neB5 := by decide }
/-- The builder in block b holds the bytes l. -/
def Bld (w : World) (b : Nat) (l : List UInt8) : Prop := Lib.IsBuilderF 138 5 b b (Lib.byteCells l) w
/-- What a call on the builder leaves: blocks from the builder's on may turn; among these, only the builder and rows of bytes do. -/
def Wrote (b : Nat) (w w' : World) : Prop := Mod (fun k => b ≤ k) w w' ∧ Lib.OthersKept 5 (some b) w w'
theorem Wrote.mod {b : Nat} {w w' : World} (h : Wrote b w w') : Mod (fun k => b ≤ k) w w' := h.1
theorem Wrote.blk {b : Nat} {w w' : World} (h : Wrote b w w') {k : Nat} {cs : Array Value} {t : TypeId} (hb : Blk w k cs t) (hk : k ≠ b) (ht : t ≠ 5) : Blk w' k cs t :=
  h.2 k _ hb (fun e => hk (Option.some.inj e)) (fun c fz e => ht (by cases e; rfl))
theorem Wrote.trans {b : Nat} {w w' w'' : World} (h : Wrote b w w') (k : Wrote b w' w'') : Wrote b w w'' := ⟨h.1.trans k.1, h.2.trans k.2⟩
/-- Behind what made memory alone. -/
theorem Wrote.new {b : Nat} {w0 w w' : World} (hn : New w0 w) (h : Wrote b w w') (hb : w0.heap.size ≤ b) : New w0 w' := hn.trans' h.1 (fun i hi x => by omega)
theorem Bld.lt {w : World} {b : Nat} {l : List UInt8} (h : Bld w b l) : b < w.heap.size := by
  rcases h with h | h <;> exact h.lt
theorem builderAt_new {T e : TypeId} {B b : Nat} {p : Value} {bs : List Value} {w w' : World} (h : Lib.BuilderAtF T e B b p bs w) (hn : New w w') : Lib.BuilderAtF T e B b p bs w' := by
  obtain ⟨hB, v, hb, hown, hne⟩ := h
  have hlt : b < w.heap.size := Lib.BuilderAtF.lt ⟨hB, v, hb, hown, hne⟩
  refine ⟨hB, v, (hn.block b hlt (fun x => x)).trans hb, ?_, hne⟩
  refine hown.kept (row := none) ⟨hn.os, hn.tape, hn.output, hn.size, fun k hk _ => hn.block k hk (fun x => x)⟩ ?_
  rcases hown.2 with ⟨rfl, _⟩ | ⟨g, cap, cur, fz, rfl, _⟩
  · exact .inl rfl
  · exact .inr (by simp [Value.ownBlock])
theorem Bld.new {w w' : World} {b : Nat} {l : List UInt8} (h : Bld w b l) (hn : New w w') : Bld w' b l := by
  rcases h with h | h
  · exact .inl (builderAt_new h hn)
  · exact .inr (builderAt_new h hn)
theorem Bld.fresh (w : World) : Bld (w.alloc (.cells #[.pointer none, .slice none 0 0] 138)) w.heap.size [] := Lib.IsBuilderF.of (Lib.fresh_isBuilder _ _ w)
theorem write_any (b : Nat) (l : List UInt8) (s : ByteArray) (w : World) (h : Bld w b l) (hlen : l.length + s.size ≤ 140737488355328) :
    Calls Tryz.prog 114 #[.pointer (some ⟨b, 0, none⟩), .string s] w fun e w' => e = .returned (.tuple #[.int .i64 s.size, .nilIface]) ∧ Bld w' b (l ++ s.data.toList) ∧ Wrote b w w' := by
  refine (@Any.Builder_WriteString_k Tryz.prog Tryz.lays156_ren lays166 Tryz.Builder_Extra_156 b b (Lib.byteCells l) s w h (by rw [Lib.byteCells_length]; exact hlen) (Nat.le_of_lt h.lt)).mono fun e w' ⟨he, h1, h2, h3⟩ => ⟨he, ?_, Mod.of_below h2, h3⟩
  refine .inr ?_
  rw [Lib.byteCells_append, ← Lib.strCells_eq]
  exact h1
theorem string_any (b : Nat) (l : List UInt8) (w : World) (h : Bld w b l) :
    Calls Tryz.prog 116 #[.pointer (some ⟨b, 0, none⟩)] w fun e w' => e = .returned (.string ⟨l.toArray⟩) ∧ Bld w' b l ∧ Wrote b w w' :=
  (@Any.Builder_String_any_k Tryz.prog Tryz.lays156_ren lays169 Tryz.Builder_Extra_156 b b l w h (Nat.le_of_lt h.lt)).mono fun e w' ⟨he, h1, h2, h3⟩ => ⟨he, h1, Mod.of_below h2, h3⟩
theorem byte_any (b : Nat) (l : List UInt8) (c : UInt8) (w : World) (h : Bld w b l) (hlen : l.length + 1 ≤ 140737488355328) :
    Calls Tryz.prog 113 #[.pointer (some ⟨b, 0, none⟩), .int .u8 c.toNat] w fun e w' => e = .returned .nilIface ∧ Bld w' b (l ++ [c]) ∧ Wrote b w w' := by
  refine (@Any.Builder_WriteByte_k Tryz.prog bren lays167 extra167 b b (Lib.byteCells l) c.toNat w h (by rw [Lib.byteCells_length]; exact hlen) (Nat.le_of_lt h.lt)).mono fun e w' ⟨he, h1, h2, h3⟩ => ⟨he, ?_, Mod.of_below h2, h3⟩
  refine .inr ?_
  rw [Lib.byteCells_append]
  exact h1
theorem size_list (l : List UInt8) : (⟨l.toArray⟩ : ByteArray).size = l.length := by simp [ByteArray.size]
end Go.Proofs.YtbgmkplpolgebaaGreatDoor

namespace Go.Proofs
open Go.Shelf
def Tryz.lays158_ren : Go.Shelf.Ren := ⟨fun | 158 => 115 | 165 => 118 | 166 => 114 | 167 => 113 | 169 => 116 | 230 => 155 | 203 => 156 | 240 => 154 | 241 => 158 | 197 => 161 | 118 => 180 | 168 => 181 | 270 => 182 | 262 => 183 | 276 => 179 | 277 => 185 | 260 => 186 | 242 => 193 | 313 => 194 | 278 => 206 | 274 => 207 | 275 => 208 | n => n, fun | 9 => 9 | 4 => 4 | 3 => 3 | 5 => 5 | 72 => 138 | 0 => 0 | 76 => 143 | 75 => 141 | 107 => 183 | 70 => 136 | 20 => 20 | 37 => 42 | 127 => 184 | 21 => 21 | 105 => 186 | 164 => 195 | 162 => 209 | 203 => 207 | 119 => 215 | 46 => 135 | 139 => 218 | 138 => 217 | 51 => 202 | 160 => 226 | 208 => 239 | 206 => 237 | 80 => 145 | n => n, fun | 13 => 1 | 3 => 2 | 4 => 3 | n => n⟩
theorem Tryz.lays158 : Go.Proofs.Lays.n158 Tryz.prog Tryz.lays158_ren := {
  mixed := by kernel_rfl
  f118 := Tryz.func180.trans (congrArg some (by kernel_rfl))
  f158 := Tryz.func115.trans (congrArg some (by kernel_rfl))
  f165 := Tryz.func118.trans (congrArg some (by kernel_rfl))
  f166 := Tryz.func114.trans (congrArg some (by kernel_rfl))
  f167 := Tryz.func113.trans (congrArg some (by kernel_rfl))
  f168 := Tryz.func181.trans (congrArg some (by kernel_rfl))
  f169 := Tryz.func116.trans (congrArg some (by kernel_rfl))
  f197 := Tryz.func161.trans (congrArg some (by kernel_rfl))
  f203 := Tryz.func156.trans (congrArg some (by kernel_rfl))
  f230 := Tryz.func155.trans (congrArg some (by kernel_rfl))
  f240 := Tryz.func154.trans (congrArg some (by kernel_rfl))
  f241 := Tryz.func158.trans (congrArg some (by kernel_rfl))
  f242 := Tryz.func193.trans (congrArg some (by kernel_rfl))
  f260 := Tryz.func186.trans (congrArg some (by kernel_rfl))
  f262 := Tryz.func183.trans (congrArg some (by kernel_rfl))
  f270 := Tryz.func182.trans (congrArg some (by kernel_rfl))
  f274 := Tryz.func207.trans (congrArg some (by kernel_rfl))
  f275 := Tryz.func208.trans (congrArg some (by kernel_rfl))
  f276 := Tryz.func179.trans (congrArg some (by kernel_rfl))
  f277 := Tryz.func185.trans (congrArg some (by kernel_rfl))
  f278 := Tryz.func206.trans (congrArg some (by kernel_rfl))
  f313 := Tryz.func194.trans (congrArg some (by kernel_rfl))
  t0 := Tryz.underlying0
  a0 := Tryz.isAgg0
  z0 := Tryz.sizeOf0
  v0 := Tryz.zeroValue0
  t3 := Tryz.underlying3
  a3 := Tryz.isAgg3
  z3 := Tryz.sizeOf3
  v3 := Tryz.zeroValue3
  t4 := Tryz.underlying4
  a4 := Tryz.isAgg4
  z4 := Tryz.sizeOf4
  v4 := Tryz.zeroValue4
  t5 := Tryz.underlying5
  a5 := Tryz.isAgg5
  z5 := Tryz.sizeOf5
  v5 := Tryz.zeroValue5
  t9 := Tryz.underlying9
  a9 := Tryz.isAgg9
  z9 := Tryz.sizeOf9
  v9 := Tryz.zeroValue9
  t20 := Tryz.underlying20
  a20 := Tryz.isAgg20
  z20 := Tryz.sizeOf20
  v20 := Tryz.zeroValue20
  t21 := Tryz.underlying21
  a21 := Tryz.isAgg21
  z21 := Tryz.sizeOf21
  v21 := Tryz.zeroValue21
  t37 := Tryz.underlying42
  a37 := Tryz.isAgg42
  z37 := Tryz.sizeOf42
  v37 := Tryz.zeroValue42
  t46 := Tryz.underlying135
  a46 := Tryz.isAgg135
  z46 := Tryz.sizeOf135
  v46 := Tryz.zeroValue135
  t51 := Tryz.underlying202
  a51 := Tryz.isAgg202
  z51 := Tryz.sizeOf202
  v51 := Tryz.zeroValue202
  t70 := Tryz.underlying136
  a70 := Tryz.isAgg136
  z70 := Tryz.sizeOf136
  v70 := Tryz.zeroValue136
  t72 := Tryz.underlying138
  a72 := Tryz.isAgg138
  z72 := Tryz.sizeOf138
  v72 := Tryz.zeroValue138
  t75 := Tryz.underlying141
  a75 := Tryz.isAgg141
  z75 := Tryz.sizeOf141
  v75 := Tryz.zeroValue141
  t76 := Tryz.underlying143
  a76 := Tryz.isAgg143
  z76 := Tryz.sizeOf143
  v76 := Tryz.zeroValue143
  t105 := Tryz.underlying186
  a105 := Tryz.isAgg186
  z105 := Tryz.sizeOf186
  v105 := Tryz.zeroValue186
  t107 := Tryz.underlying183
  a107 := Tryz.isAgg183
  z107 := Tryz.sizeOf183
  v107 := Tryz.zeroValue183
  t119 := Tryz.underlying215
  a119 := Tryz.isAgg215
  z119 := Tryz.sizeOf215
  t127 := Tryz.underlying184
  a127 := Tryz.isAgg184
  z127 := Tryz.sizeOf184
  v127 := Tryz.zeroValue184
  t138 := Tryz.underlying217
  a138 := Tryz.isAgg217
  z138 := Tryz.sizeOf217
  v138 := Tryz.zeroValue217
  t139 := Tryz.underlying218
  a139 := Tryz.isAgg218
  z139 := Tryz.sizeOf218
  v139 := Tryz.zeroValue218
  t160 := Tryz.underlying226
  a160 := Tryz.isAgg226
  z160 := Tryz.sizeOf226
  v160 := Tryz.zeroValue226
  t162 := Tryz.underlying209
  a162 := Tryz.isAgg209
  z162 := Tryz.sizeOf209
  v162 := Tryz.zeroValue209
  t164 := Tryz.underlying195
  a164 := Tryz.isAgg195
  z164 := Tryz.sizeOf195
  v164 := Tryz.zeroValue195
  t203 := Tryz.underlying207
  a203 := Tryz.isAgg207
  z203 := Tryz.sizeOf207
  v203 := Tryz.zeroValue207
  t206 := Tryz.underlying237
  a206 := Tryz.isAgg237
  z206 := Tryz.sizeOf237
  v206 := Tryz.zeroValue237
  t208 := Tryz.underlying239
  a208 := Tryz.isAgg239
  z208 := Tryz.sizeOf239
  v208 := Tryz.zeroValue239
  g3 := by kernel_rfl
  g4 := by kernel_rfl
  g13 := by kernel_rfl }
theorem Tryz.Builder_Extra_158 : Builder.Extra Tryz.prog Tryz.lays158_ren := {
  sizeBuilder := by kernel_rfl
  liesBuilder := by kernel_rfl
  t5 := Tryz.underlying5
  a5 := Tryz.isAgg5
  z5 := Tryz.sizeOf5
  v5 := Tryz.zeroValue5
  infoByte := by kernel_rfl
  cellsByte := by kernel_rfl
  sizeByte := by kernel_rfl
  neB5 := by decide }
open Go.RowKit in
theorem Tryz.strings_ToUpper_ascii (s : ByteArray) (w : World) (hs : s.size ≤ 140737488355328) (hascii : ∀ (j : Nat) (b : UInt8), s.data.toList[j]? = some b → b.toNat < 128) :
    Calls Tryz.prog 115 #[.string s] w fun e w' => e = .returned (.string ⟨(Lib.toUpperA s.data.toList).toArray⟩) ∧ Below w.heap.size w w' := Any.strings_ToUpper_ascii Tryz.lays158 Tryz.Builder_Extra_158 s w hs hascii
def Tryz.lays103_ren : Go.Shelf.Ren := ⟨fun | 103 => 22 | 210 => 67 | 206 => 122 | n => n, fun | 9 => 9 | 4 => 4 | 24 => 45 | 3 => 3 | n => n, fun | n => n⟩
theorem Tryz.lays103 : Go.Proofs.Lays.n103 Tryz.prog Tryz.lays103_ren := {
  mixed := by kernel_rfl
  f103 := Tryz.func22.trans (congrArg some (by kernel_rfl))
  f206 := Tryz.func122.trans (congrArg some (by kernel_rfl))
  f210 := Tryz.func67.trans (congrArg some (by kernel_rfl))
  t3 := Tryz.underlying3
  a3 := Tryz.isAgg3
  z3 := Tryz.sizeOf3
  v3 := Tryz.zeroValue3
  t4 := Tryz.underlying4
  a4 := Tryz.isAgg4
  z4 := Tryz.sizeOf4
  v4 := Tryz.zeroValue4
  t9 := Tryz.underlying9
  a9 := Tryz.isAgg9
  z9 := Tryz.sizeOf9
  v9 := Tryz.zeroValue9
  t24 := Tryz.underlying45
  a24 := Tryz.isAgg45
  z24 := Tryz.sizeOf45
  v24 := Tryz.zeroValue45 }
open Go.RowKit in
theorem Tryz.strings_CutPrefix (s p : ByteArray) (w : World) :
    Calls Tryz.prog 22 #[.string s, .string p] w fun e w' => e = .returned (.tuple #[.string ⟨(Lib.trimPrefix s.data.toList p.data.toList).toArray⟩, .bool (Lib.hasPrefix s.data.toList p.data.toList)]) ∧ w' = w := Any.strings_CutPrefix Tryz.lays103 s p w
def Tryz.lays145_ren : Go.Shelf.Ren := ⟨fun | 145 => 25 | 220 => 69 | 219 => 126 | 217 => 163 | 225 => 164 | 224 => 165 | 267 => 166 | 266 => 187 | 314 => 188 | n => n, fun | 9 => 9 | 4 => 4 | 59 => 51 | 3 => 3 | 5 => 5 | 46 => 135 | 146 => 203 | 51 => 202 | n => n, fun | 1 => 0 | n => n⟩
theorem Tryz.lays145 : Go.Proofs.Lays.n145 Tryz.prog Tryz.lays145_ren := {
  mixed := by kernel_rfl
  f145 := Tryz.func25.trans (congrArg some (by kernel_rfl))
  f217 := Tryz.func163.trans (congrArg some (by kernel_rfl))
  f219 := Tryz.func126.trans (congrArg some (by kernel_rfl))
  f220 := Tryz.func69.trans (congrArg some (by kernel_rfl))
  f224 := Tryz.func165.trans (congrArg some (by kernel_rfl))
  f225 := Tryz.func164.trans (congrArg some (by kernel_rfl))
  f266 := Tryz.func187.trans (congrArg some (by kernel_rfl))
  f267 := Tryz.func166.trans (congrArg some (by kernel_rfl))
  f314 := Tryz.func188.trans (congrArg some (by kernel_rfl))
  t3 := Tryz.underlying3
  a3 := Tryz.isAgg3
  z3 := Tryz.sizeOf3
  v3 := Tryz.zeroValue3
  t4 := Tryz.underlying4
  a4 := Tryz.isAgg4
  z4 := Tryz.sizeOf4
  v4 := Tryz.zeroValue4
  t5 := Tryz.underlying5
  a5 := Tryz.isAgg5
  z5 := Tryz.sizeOf5
  v5 := Tryz.zeroValue5
  t9 := Tryz.underlying9
  a9 := Tryz.isAgg9
  z9 := Tryz.sizeOf9
  v9 := Tryz.zeroValue9
  t46 := Tryz.underlying135
  a46 := Tryz.isAgg135
  z46 := Tryz.sizeOf135
  v46 := Tryz.zeroValue135
  t51 := Tryz.underlying202
  a51 := Tryz.isAgg202
  z51 := Tryz.sizeOf202
  v51 := Tryz.zeroValue202
  t59 := Tryz.underlying51
  a59 := Tryz.isAgg51
  z59 := Tryz.sizeOf51
  v59 := Tryz.zeroValue51
  t146 := Tryz.underlying203
  a146 := Tryz.isAgg203
  z146 := Tryz.sizeOf203
  v146 := Tryz.zeroValue203
  g1 := by kernel_rfl }
open Go.RowKit Go.Lib in
theorem Tryz.strings_Cut (s sep : ByteArray) (m : Int) (w : World) (hs : s.size < 4294967281) (hm : w.cell? ⟨0, 0, none⟩ = some (.int .i64 m)) :
    Calls Tryz.prog 25 #[.string s, .string sep] w fun e w' => e = .returned (.tuple #[.string ⟨(Lib.cut s.data.toList sep.data.toList).1.toArray⟩, .string ⟨(Lib.cut s.data.toList sep.data.toList).2.1.toArray⟩, .bool (Lib.cut s.data.toList sep.data.toList).2.2]) ∧ ∃ n, w' = w.drewN n := Any.strings_Cut Tryz.lays145 s sep m w hs hm
def Tryz.lays146_ren : Go.Shelf.Ren := ⟨fun | 146 => 24 | 221 => 68 | 268 => 123 | 138 => 124 | 143 => 125 | 195 => 160 | 197 => 161 | 218 => 162 | 219 => 126 | 260 => 186 | 217 => 163 | 225 => 164 | 224 => 165 | 267 => 166 | 266 => 187 | 314 => 188 | n => n, fun | 9 => 9 | 31 => 23 | 3 => 3 | 4 => 4 | 0 => 0 | 105 => 186 | 21 => 21 | 5 => 5 | 46 => 135 | 119 => 215 | 139 => 218 | 138 => 217 | 146 => 203 | 51 => 202 | n => n, fun | 1 => 0 | 3 => 2 | 4 => 3 | n => n⟩
theorem Tryz.lays146 : Go.Proofs.Lays.n146 Tryz.prog Tryz.lays146_ren := {
  mixed := by kernel_rfl
  f138 := Tryz.func124.trans (congrArg some (by kernel_rfl))
  f143 := Tryz.func125.trans (congrArg some (by kernel_rfl))
  f146 := Tryz.func24.trans (congrArg some (by kernel_rfl))
  f195 := Tryz.func160.trans (congrArg some (by kernel_rfl))
  f197 := Tryz.func161.trans (congrArg some (by kernel_rfl))
  f217 := Tryz.func163.trans (congrArg some (by kernel_rfl))
  f218 := Tryz.func162.trans (congrArg some (by kernel_rfl))
  f219 := Tryz.func126.trans (congrArg some (by kernel_rfl))
  f221 := Tryz.func68.trans (congrArg some (by kernel_rfl))
  f224 := Tryz.func165.trans (congrArg some (by kernel_rfl))
  f225 := Tryz.func164.trans (congrArg some (by kernel_rfl))
  f260 := Tryz.func186.trans (congrArg some (by kernel_rfl))
  f266 := Tryz.func187.trans (congrArg some (by kernel_rfl))
  f267 := Tryz.func166.trans (congrArg some (by kernel_rfl))
  f268 := Tryz.func123.trans (congrArg some (by kernel_rfl))
  f314 := Tryz.func188.trans (congrArg some (by kernel_rfl))
  t0 := Tryz.underlying0
  a0 := Tryz.isAgg0
  z0 := Tryz.sizeOf0
  v0 := Tryz.zeroValue0
  t3 := Tryz.underlying3
  a3 := Tryz.isAgg3
  z3 := Tryz.sizeOf3
  v3 := Tryz.zeroValue3
  t4 := Tryz.underlying4
  a4 := Tryz.isAgg4
  z4 := Tryz.sizeOf4
  v4 := Tryz.zeroValue4
  t5 := Tryz.underlying5
  a5 := Tryz.isAgg5
  z5 := Tryz.sizeOf5
  v5 := Tryz.zeroValue5
  t9 := Tryz.underlying9
  a9 := Tryz.isAgg9
  z9 := Tryz.sizeOf9
  v9 := Tryz.zeroValue9
  t21 := Tryz.underlying21
  a21 := Tryz.isAgg21
  z21 := Tryz.sizeOf21
  v21 := Tryz.zeroValue21
  t31 := Tryz.underlying23
  a31 := Tryz.isAgg23
  z31 := Tryz.sizeOf23
  v31 := Tryz.zeroValue23
  t46 := Tryz.underlying135
  a46 := Tryz.isAgg135
  z46 := Tryz.sizeOf135
  v46 := Tryz.zeroValue135
  t51 := Tryz.underlying202
  a51 := Tryz.isAgg202
  z51 := Tryz.sizeOf202
  v51 := Tryz.zeroValue202
  t105 := Tryz.underlying186
  a105 := Tryz.isAgg186
  z105 := Tryz.sizeOf186
  v105 := Tryz.zeroValue186
  t119 := Tryz.underlying215
  a119 := Tryz.isAgg215
  z119 := Tryz.sizeOf215
  t138 := Tryz.underlying217
  a138 := Tryz.isAgg217
  z138 := Tryz.sizeOf217
  v138 := Tryz.zeroValue217
  t139 := Tryz.underlying218
  a139 := Tryz.isAgg218
  z139 := Tryz.sizeOf218
  v139 := Tryz.zeroValue218
  t146 := Tryz.underlying203
  a146 := Tryz.isAgg203
  z146 := Tryz.sizeOf203
  v146 := Tryz.zeroValue203
  g1 := by kernel_rfl
  g3 := by kernel_rfl
  g4 := by kernel_rfl }
open Go.RowKit Go.Lib in
theorem Tryz.strings_Split (s sep : ByteArray) (m : Int) (w : World) (hs : s.size < 4294967281) (hm : w.cell? ⟨0, 0, none⟩ = some (.int .i64 m)) (h1 : 1 ≤ sep.size) :
    Calls Tryz.prog 24 #[.string s, .string sep] w fun e w' =>
      e = .returned (.slice (some ⟨w.heap.size, 0, none⟩) (Lib.countB s sep + 1) (Lib.countB s sep + 1)) ∧ w' = w.alloc (.cells ((Lib.splitB sep 0 (Lib.countB s sep) s).map Value.string).toArray 9) := Any.strings_Split Tryz.lays146 (by kernel_rfl) s sep m w hs hm h1
end Go.Proofs

namespace Go.Proofs.YtbgmkplpolgebaaGreatDoor
set_option linter.unusedSimpArgs false
set_option linter.unusedVariables false
open Go.RowKit Go.Shelf

theorem byteAtE (t : ByteArray) {k : Nat} (h : k < t.size) : t.data.toList[k]'(by rw [Array.length_toList]; exact h) = t[k] := rfl
theorem up_hex (c : UInt8) : Lib.toUpperA (hexOf [c]) = [upD (c.toNat / 16), upD (c.toNat % 16)] := by
  have h : ∀ n : Nat, n < 256 → Lib.toUpperA (hexOf [UInt8.ofNat n]) = [upD ((UInt8.ofNat n).toNat / 16), upD ((UInt8.ofNat n).toNat % 16)] := by decide +kernel
  have := h c.toNat c.toNat_lt
  rwa [UInt8.ofNat_toNat] at this
theorem one_cut (s : ByteArray) {k : Nat} (h : k < s.size) : (s.extract k (k + 1)).data.toList = [s[k]] := by
  rw [ByteArray.data_extract, Array.toList_extract, List.extract_eq_take_drop]
  rw [List.drop_eq_getElem_cons (by rw [Array.length_toList]; exact h), show k + 1 - k = 1 by omega]
  rfl
theorem hex_ascii (l : List UInt8) : ∀ (j : Nat) (b : UInt8), (⟨(hexOf l).toArray⟩ : ByteArray).data.toList[j]? = some b → b.toNat < 128 := by
  intro j b h
  have hm : b ∈ hexOf l := by simpa using List.mem_of_getElem? h
  have := hex_bytes hm
  omega
set_option maxRecDepth 100000 in
set_option maxHeartbeats 4000000 in
theorem escape_any (s : ByteArray) (w : World) (hs : s.size ≤ 4000000) : Calls Tryz.prog 53 #[.string s] w fun e w' => e = .returned (.string ⟨(eOf s.data.toList).toArray⟩) ∧ New w w' := by
  have HP := hid (fun c w => mplain_any c w)
  obtain ⟨X, hX⟩ : ∃ X, X = eOf s.data.toList := ⟨_, rfl⟩
  rw [← hX]
  have HX := hid hX
  have hlen : s.data.toList.length = s.size := by rw [Array.length_toList]; rfl
  have HFR := hid (Bld.fresh w)
  have HN0 : Hid (New w (w.alloc (.cells #[.pointer none, .slice none 0 0] 138))) := hid ((Mod.refl _ _).alloc _)
  clear hX
  go_enter Tryz.func53, Tryz.ntmps53
  go_wp2_with fail
  go_loopw [7] (fun x wr => ∃ (k : Nat), x = .int .i64 k ∧ k ≤ s.size ∧ Bld wr w.heap.size (eOf (s.data.toList.take k)) ∧ New w wr) (fun x _ => s.size - (intOf x).toNat)
  case atStart => exact ⟨0, rfl, by omega, by rw [List.take_zero]; exact HFR.out, HN0.out⟩
  case round =>
    clear HFR HN0
    obtain ⟨k, rfl, hk, hbl, hn⟩ := hrel
    have HBL := hid hbl; have HN := hid hn
    have hbw := hbl.lt
    by_cases hlt : k < s.size
    · have hltI : (k : Int) < (s.size : Int) := by omega
      have hb := byteAtE s hlt
      have HNX := hid (eOf_next (l := s.data.toList) (k := k) (by omega))
      have hacc := eOf_len (s.data.toList.take k)
      rw [List.length_take] at hacc
      obtain ⟨acc, hac⟩ : ∃ acc, acc = eOf (s.data.toList.take k) := ⟨_, rfl⟩
      rw [← hac, hb] at HNX
      rw [← hac] at HBL hacc
      have HCUT := hid (one_cut s hlt)
      clear hbl hn hac hb
      cases hp : plainE s[k] with
      | true =>
        have HPC := hid (fun w => HP.out s[k] w)
        rw [hp] at HPC
        rw [eB, hp, if_pos rfl] at HNX
        clear hp
        go_wp2_with fail
        refine (HPC.out _).mono ?_
        rintro e w3 ⟨rfl, rfl⟩
        go_wp2_with fail
        refine (byte_any w.heap.size acc s[k] _ HBL.out (by omega)).mono ?_
        rintro e w4 ⟨rfl, b4, n4⟩
        have B4 := hid b4
        have N4 := hid n4
        clear b4 n4
        go_wp2
        exact ⟨⟨k + 1, by simp, by omega, by rw [HNX.out]; exact B4.out, Wrote.new HN.out N4.out (Nat.le_refl _)⟩, by simp [intOf]; omega⟩
      | false =>
        have HPC := hid (fun w => HP.out s[k] w)
        rw [hp] at HPC
        rw [eB, hp, if_neg (by decide)] at HNX
        clear hp
        have HHX := hid (fun W => hex_any (s.extract k (k + 1)) W (by rw [ByteArray.size_extract]; omega))
        rw [HCUT.out] at HHX
        have HUP := hid (fun W => Tryz.strings_ToUpper_ascii ⟨(hexOf [s[k]]).toArray⟩ W (by show (hexOf [s[k]]).toArray.size ≤ _; simp [hexOf]) (hex_ascii _))
        have hup2 : (⟨(Lib.toUpperA (⟨(hexOf [s[k]]).toArray⟩ : ByteArray).data.toList).toArray⟩ : ByteArray) = ⟨#[upD (s[k].toNat / 16), upD (s[k].toNat % 16)]⟩ := by
          rw [show (⟨(hexOf [s[k]]).toArray⟩ : ByteArray).data.toList = hexOf [s[k]] by simp, up_hex]
        rw [hup2] at HUP
        obtain ⟨HB, hHB⟩ : ∃ HB : ByteArray, HB = ⟨(hexOf [s[k]]).toArray⟩ := ⟨_, rfl⟩
        rw [← hHB] at HHX HUP
        obtain ⟨H, hH⟩ : ∃ H, H = upD (s[k].toNat / 16) := ⟨_, rfl⟩
        obtain ⟨L, hL⟩ : ∃ L, L = upD (s[k].toNat % 16) := ⟨_, rfl⟩
        rw [← hH, ← hL] at HUP HNX
        have hadd : ∀ w, (Op.stringOp .add ⟨#[37]⟩ ⟨#[H, L]⟩).run Tryz.prog w = .ok (.string ⟨#[37, H, L]⟩) w := fun w => run_string_add_sum (w := w) _ _ (by show 1 + 2 ≤ _; omega)
        have hk1 : IntKind.i64.wrap ((k : Int) + 1) = (k : Int) + 1 := by rw [IntKind.wrap_i64]; omega
        have hk2 : ((k : Int) + 1).toNat = k + 1 := by omega
        have hk3 : (k : Int) + 1 ≤ (s.size : Int) := by omega
        have hk4 : (k : Int) ≤ (k : Int) + 1 := by omega
        clear hup2 hHB hH hL
        go_wp2_with fail
        refine (HPC.out _).mono ?_
        rintro e w3 ⟨rfl, rfl⟩
        go_wp2_with fail
        refine (HHX.out _).mono ?_
        rintro e w4 ⟨rfl, n4⟩
        have N4 := hid n4
        clear n4
        go_wp2_with fail
        refine (HUP.out _).mono ?_
        rintro e w5 ⟨rfl, n5⟩
        have N5 := hid (N4.out.trans ((Mod.of_below n5).mono (fun i hi q => absurd q (by omega))))
        clear n5
        go_wp2_with fail
        refine (write_any w.heap.size acc ⟨#[37, H, L]⟩ _ (HBL.out.new N5.out) (by show acc.length + 3 ≤ _; omega)).mono ?_
        rintro e w6 ⟨rfl, b6, n6⟩
        have B6 := hid b6
        have N6 := hid n6
        clear b6 n6
        go_wp2
        exact ⟨⟨k + 1, by simp, by omega, by rw [HNX.out]; exact B6.out, Wrote.new (HN.out.trans N5.out) N6.out (Nat.le_refl _)⟩, by simp [intOf]; omega⟩
    · have hjl : s.data.toList.take k = s.data.toList := List.take_of_length_le (by omega)
      rw [hjl, ← HX.out] at HBL
      clear hjl hbl hn
      go_wp2_with fail
      refine (string_any w.heap.size X _ HBL.out).mono ?_
      rintro e w4 ⟨rfl, b4, n4⟩
      have N4 := hid n4
      clear b4 n4
      go_wp2_with fail
      go_ret
      exact ⟨rfl, Wrote.new HN.out N4.out (Nat.le_refl _)⟩
end Go.Proofs.YtbgmkplpolgebaaGreatDoor

namespace Go.Proofs.YtbgmkplpolgebaaGreatDoor
set_option linter.unusedSimpArgs false
set_option linter.unusedVariables false
open Go.RowKit

/-- The first cells of block g are the bytes s, and may be written. -/
def ByAt (w : World) (g : Nat) (s : List UInt8) : Prop :=
  ∃ (C : Array Value) (fr : Nat × Nat), w.heap[g]? = some (.cells C 5 fr) ∧ s.length ≤ C.size ∧ C.size ≤ fr.1 + (if fr = (0, 0) then C.size else 0) ∧ ∀ (i : Nat) (hi : i < s.length), C[i]? = some (.int .u8 (s[i].toNat : Int))
theorem ByAt.cell {w : World} {g : Nat} {s : List UInt8} (h : ByAt w g s) {i : Nat} (hi : i < s.length) : w.cell? ⟨g, i, none⟩ = some (.int .u8 (s[i].toNat : Int)) := by
  obtain ⟨C, fr, h1, -, -, h4⟩ := h
  simp only [World.cell?, h1]
  exact h4 i hi
theorem ByAt.lt {w : World} {g : Nat} {s : List UInt8} (h : ByAt w g s) : g < w.heap.size := by
  obtain ⟨C, fr, h1, -⟩ := h
  exact (Array.getElem?_eq_some_iff.1 h1).1
theorem ByAt.frz {w : World} {g : Nat} {s : List UInt8} (h : ByAt w g s) {i : Nat} (hi : i < s.length) : w.frozen? ⟨g, i, none⟩ = false := by
  obtain ⟨C, fr, h1, h2, h3, -⟩ := h
  obtain ⟨lo, hi2⟩ := fr
  simp only [World.frozen?, h1]
  by_cases e : (lo, hi2) = (0, 0)
  · cases e
    simp
  · rw [if_neg e] at h3
    have : ¬ lo ≤ i := by simp only at h3; omega
    simp [this]
theorem ByAt.of_heap {w w' : World} {g : Nat} {s : List UInt8} (h : ByAt w g s) (e : w'.heap[g]? = w.heap[g]?) : ByAt w' g s := by
  obtain ⟨C, fr, h1, h2⟩ := h
  exact ⟨C, fr, e.trans h1, h2⟩
theorem ByAt.new {w w' : World} {g : Nat} {s : List UInt8} (h : ByAt w g s) (n : New w w') : ByAt w' g s := h.of_heap (n.block g h.lt (fun x => x))
theorem ByAt.mod {S : Nat → Prop} {w w' : World} {g : Nat} {s : List UInt8} (h : ByAt w g s) (n : Mod S w w') (hg : ¬ S g) : ByAt w' g s := h.of_heap (n.block g h.lt hg)
theorem ByAt.of_blk {w : World} {g : Nat} {s : List UInt8} {cs : Array Value} (h : Blk w g cs 5) (hl : s.length ≤ cs.size) (hc : ∀ (i : Nat) (hi : i < s.length), cs[i]? = some (.int .u8 (s[i].toNat : Int))) : ByAt w g s :=
  ⟨cs, (0, 0), h, hl, by simp, hc⟩
theorem ByAt.set {w : World} {g : Nat} {s : List UInt8} (h : ByAt w g s) {i : Nat} (hi : i < s.length) (b : UInt8) : ByAt (w.setCell ⟨g, i, none⟩ (.int .u8 (b.toNat : Int))) g (s.set i b) := by
  obtain ⟨C, fr, h1, h2, h3, h4⟩ := h
  refine ⟨C.setIfInBounds i (.int .u8 (b.toNat : Int)), fr, ?_, by simpa using h2, by simpa using h3, fun j hj => ?_⟩
  · have hlt : g < w.heap.size := (Array.getElem?_eq_some_iff.1 h1).1
    have h' : w.heap[g] = .cells C 5 fr := by simpa [Array.getElem?_eq_getElem hlt] using h1
    show (w.heap.modify g _)[g]? = _
    rw [Array.getElem?_eq_getElem (by simpa using hlt), Array.getElem_modify_self, h']
    rfl
  · rw [List.length_set] at hj
    rw [Array.getElem?_setIfInBounds]
    by_cases e : i = j
    · subst e
      rw [if_pos rfl, if_pos (by omega)]
      simp
    · rw [if_neg e, h4 j hj, List.getElem_set_ne e]
/-- Behind '[]byte(s)'. -/
abbrev afterBytes (w : World) (s : ByteArray) : World :=
  w.drew.alloc (.cells (bytesRow s (grownCap w s.size 0 5)) 5 ((bytesRow s (grownCap w s.size 0 5)).size, (bytesRow s (grownCap w s.size 0 5)).size + 1))
theorem bytes_of (w : World) (s : ByteArray) : (convert 9 42 (.string s)).run Tryz.prog w = .ok (.slice (some ⟨w.heap.size, 0, none⟩) s.size (grownCap w s.size 0 5)) (afterBytes w s) :=
  run_bytes_of_string w 9 42 5 s Tryz.underlying9 Tryz.underlying42 Tryz.underlying5
theorem bytes_lie (w : World) (s : ByteArray) {g : Nat} (hg : g = w.heap.size) : ByAt (afterBytes w s) g s.data.toList := by
  subst hg
  refine ⟨bytesRow s (grownCap w s.size 0 5), ((bytesRow s (grownCap w s.size 0 5)).size, (bytesRow s (grownCap w s.size 0 5)).size + 1), (show (w.heap.push _)[w.heap.size]? = _ by simp), ?_, ?_, fun i hi => ?_⟩
  · unfold bytesRow
    simp
  · exact Nat.le_add_right _ _
  · have hi' : i < s.data.size := by simpa using hi
    unfold bytesRow
    rw [Array.getElem?_append_left (by simpa using hi'), Array.getElem?_map, Array.getElem?_eq_getElem hi']
    rfl
theorem bytes_new (w : World) (s : ByteArray) : New w (afterBytes w s) := ((Mod.refl _ _).drew).alloc _
theorem ByAt.text {w : World} {g : Nat} {s : List UInt8} (h : ByAt w g s) (n c : Nat) (hn : n = s.length) : (convert 42 9 (.slice (some ⟨g, 0, none⟩) n c)).run Tryz.prog w = .ok (.string ⟨s.toArray⟩) w := by
  subst hn
  refine run_convert_bytes_back w 42 9 5 ⟨g, 0, none⟩ c s Tryz.underlying42 Tryz.underlying5 Tryz.underlying9 (fun j hj => ?_)
  have hadd : (⟨g, 0, none⟩ : Addr).add j = ⟨g, 0 + j, none⟩ := by unfold Addr.add; split <;> simp_all
  rw [hadd, Nat.zero_add]
  exact h.cell hj
theorem newGrown {w w1 w2 : World} {row : Option Nat} (n : New w w1) (g : w1.grownBy w2 row) (h : ∀ k, row = some k → w.heap.size ≤ k) : New w w2 :=
  ⟨g.os.trans n.os, g.tape.trans n.tape, g.output.trans n.output, Nat.le_trans n.size g.size, fun k hk _ => (g.block k (Nat.lt_of_lt_of_le hk n.size) (fun q => by have := h k q.symm; omega)).trans (n.block k hk (fun q => q))⟩
end Go.Proofs.YtbgmkplpolgebaaGreatDoor
