/-
  Several texts in one, in their build order. Contracts of the kit's shelf laid at this program, in plain words, written by the kit's tool. No condition. The walk of Escape (package magnet). Condition: the text is small. The walks of need, caught, hexed (package magnet). Condition: the text is no longer than the bound.
-/
import Derived.Shelf.Strings.Builder1
import Derived.Shelf.Strings.Builder2
import Derived.Shelf.Strings.OnBuilder
import Derived.Shelf.Small.Utf8
import Derived.Shelf.Small.Bits
import Derived.Shelf.Small.Strs
import Derived.Shelf.Small.Wraps
import Derived.Shelf.Strings.BuilderF
import Derived.Shelf.Strings.BuilderK
import Derived.Shelf.Strconv.Atoi
import Derived.Shelf.Strconv.Itoa0
import Derived.Shelf.Strconv.Itoa1
import Derived.Shelf.LaysM
import Derived.Shelf.Strconv.Itoa2
import Derived.Shelf.Strconv.Itoa3
import Derived.Shelf.Strconv.AtoiErrFast
import Derived.Shelf.Strconv.ParseIntEmpty
import Derived.Shelf.Strconv.AtoiFail
import Derived.Shelf.Strconv.Clone
import Derived.Shelf.Strconv.SyntaxError
import Derived.Shelf.LaysC
import Derived.Shelf.Strconv.ToError
import Derived.Shelf.Strconv.Lower
import Derived.Shelf.Strconv.ParseUint10
import Derived.Shelf.Strconv.ParseUint10Empty
import Derived.Shelf.Strconv.ParseUint10Any
import Derived.Shelf.Strconv.ParseInt10
import Derived.Shelf.Strconv.AtoiLong
import Derived.Shelf.Strconv.AtoiInnerAll
import Derived.Shelf.Strconv.RangeError
import Derived.Shelf.Strconv.ToErrorRange
import Derived.Shelf.Strconv.AtoiAll
import Derived.Shelf.Strconv.ErrVarAll
import Derived.Shelf.Strings.Search1
import Derived.Shelf.Strings.Search2
import Derived.Shelf.Strings.Search3
import Derived.Shelf.Strings.Cut
import Derived.Shelf.Strings.Count
import Derived.Shelf.Strings.Shaped
import Derived.Shelf.Strings.LastIndex
import Derived.Shelf.Strings.Prefix
import Derived.Shelf.Strings.Split
import Derived.Shelf.Strings.Replace
import Derived.Shelf.Unicode.Latin
import Derived.Shelf.Unicode.DecodeSlow
import Derived.Shelf.Unicode.CaseLookup
import Derived.Shelf.Unicode.CaseConvert
import Derived.Shelf.Unicode.CaseTo
import Derived.Shelf.Unicode.CaseLaid
import Derived.Shelf.Slices.Equal
import Derived.Shelf.Slices.Empties2
import Derived.Ground.PaProg
import Derived.Shelf.Path.Small
import Derived.Test.YtbgmkplpolgebaaGreatDoorProg
import Derived.Test.YtbgmkplpolgebaaGreatDoorM11
import Derived.Test.YtbgmkplpolgebaaGreatDoorM10
import Derived.Test.YtbgmkplpolgebaaGreatDoorM1
import Derived.Defers
import Derived.Recover
namespace Go.Proofs
open Go.Shelf
def Tryz.lays103_ren : Go.Shelf.Ren := ⟨fun | 103 => 22 | 210 => 67 | 206 => 122 | n => n, fun | 9 => 9 | 4 => 4 | 24 => 45 | 3 => 3 | n => n, fun | n => n⟩
theorem Tryz.lays103 : Go.Proofs.Lays.n103 Tryz.prog Tryz.lays103_ren := {
  mixed := by kernel_rfl
  f103 := Tryz.func22.trans (congrArg some (by kernel_rfl))
  f206 := Tryz.func122.trans (congrArg some (by kernel_rfl))
  f210 := Tryz.func67.trans (congrArg some (by kernel_rfl))
  t3 := Tryz.underlying3
  a3 := Tryz.isAgg3
  z3 := Tryz.sizeOf3
  v3 := Tryz.zeroValue3
  t4 := Tryz.underlying4
  a4 := Tryz.isAgg4
  z4 := Tryz.sizeOf4
  v4 := Tryz.zeroValue4
  t9 := Tryz.underlying9
  a9 := Tryz.isAgg9
  z9 := Tryz.sizeOf9
  v9 := Tryz.zeroValue9
  t24 := Tryz.underlying45
  a24 := Tryz.isAgg45
  z24 := Tryz.sizeOf45
  v24 := Tryz.zeroValue45 }
open Go.RowKit in
theorem Tryz.strings_CutPrefix (s p : ByteArray) (w : World) :
    Calls Tryz.prog 22 #[.string s, .string p] w fun e w' => e = .returned (.tuple #[.string ⟨(Lib.trimPrefix s.data.toList p.data.toList).toArray⟩, .bool (Lib.hasPrefix s.data.toList p.data.toList)]) ∧ w' = w := Any.strings_CutPrefix Tryz.lays103 s p w
def Tryz.lays145_ren : Go.Shelf.Ren := ⟨fun | 145 => 25 | 220 => 69 | 219 => 126 | 217 => 163 | 225 => 164 | 224 => 165 | 267 => 166 | 266 => 187 | 314 => 188 | n => n, fun | 9 => 9 | 4 => 4 | 59 => 51 | 3 => 3 | 5 => 5 | 46 => 135 | 146 => 203 | 51 => 202 | n => n, fun | 1 => 0 | n => n⟩
theorem Tryz.lays145 : Go.Proofs.Lays.n145 Tryz.prog Tryz.lays145_ren := {
  mixed := by kernel_rfl
  f145 := Tryz.func25.trans (congrArg some (by kernel_rfl))
  f217 := Tryz.func163.trans (congrArg some (by kernel_rfl))
  f219 := Tryz.func126.trans (congrArg some (by kernel_rfl))
  f220 := Tryz.func69.trans (congrArg some (by kernel_rfl))
  f224 := Tryz.func165.trans (congrArg some (by kernel_rfl))
  f225 := Tryz.func164.trans (congrArg some (by kernel_rfl))
  f266 := Tryz.func187.trans (congrArg some (by kernel_rfl))
  f267 := Tryz.func166.trans (congrArg some (by kernel_rfl))
  f314 := Tryz.func188.trans (congrArg some (by kernel_rfl))
  t3 := Tryz.underlying3
  a3 := Tryz.isAgg3
  z3 := Tryz.sizeOf3
  v3 := Tryz.zeroValue3
  t4 := Tryz.underlying4
  a4 := Tryz.isAgg4
  z4 := Tryz.sizeOf4
  v4 := Tryz.zeroValue4
  t5 := Tryz.underlying5
  a5 := Tryz.isAgg5
  z5 := Tryz.sizeOf5
  v5 := Tryz.zeroValue5
  t9 := Tryz.underlying9
  a9 := Tryz.isAgg9
  z9 := Tryz.sizeOf9
  v9 := Tryz.zeroValue9
  t46 := Tryz.underlying135
  a46 := Tryz.isAgg135
  z46 := Tryz.sizeOf135
  v46 := Tryz.zeroValue135
  t51 := Tryz.underlying202
  a51 := Tryz.isAgg202
  z51 := Tryz.sizeOf202
  v51 := Tryz.zeroValue202
  t59 := Tryz.underlying51
  a59 := Tryz.isAgg51
  z59 := Tryz.sizeOf51
  v59 := Tryz.zeroValue51
  t146 := Tryz.underlying203
  a146 := Tryz.isAgg203
  z146 := Tryz.sizeOf203
  v146 := Tryz.zeroValue203
  g1 := by kernel_rfl }
open Go.RowKit Go.Lib in
theorem Tryz.strings_Cut (s sep : ByteArray) (m : Int) (w : World) (hs : s.size < 4294967281) (hm : w.cell? ⟨0, 0, none⟩ = some (.int .i64 m)) :
    Calls Tryz.prog 25 #[.string s, .string sep] w fun e w' => e = .returned (.tuple #[.string ⟨(Lib.cut s.data.toList sep.data.toList).1.toArray⟩, .string ⟨(Lib.cut s.data.toList sep.data.toList).2.1.toArray⟩, .bool (Lib.cut s.data.toList sep.data.toList).2.2]) ∧ ∃ n, w' = w.drewN n := Any.strings_Cut Tryz.lays145 s sep m w hs hm
def Tryz.lays146_ren : Go.Shelf.Ren := ⟨fun | 146 => 24 | 221 => 68 | 268 => 123 | 138 => 124 | 143 => 125 | 195 => 160 | 197 => 161 | 218 => 162 | 219 => 126 | 260 => 186 | 217 => 163 | 225 => 164 | 224 => 165 | 267 => 166 | 266 => 187 | 314 => 188 | n => n, fun | 9 => 9 | 31 => 23 | 3 => 3 | 4 => 4 | 0 => 0 | 105 => 186 | 21 => 21 | 5 => 5 | 46 => 135 | 119 => 215 | 139 => 218 | 138 => 217 | 146 => 203 | 51 => 202 | n => n, fun | 1 => 0 | 3 => 2 | 4 => 3 | n => n⟩
theorem Tryz.lays146 : Go.Proofs.Lays.n146 Tryz.prog Tryz.lays146_ren := {
  mixed := by kernel_rfl
  f138 := Tryz.func124.trans (congrArg some (by kernel_rfl))
  f143 := Tryz.func125.trans (congrArg some (by kernel_rfl))
  f146 := Tryz.func24.trans (congrArg some (by kernel_rfl))
  f195 := Tryz.func160.trans (congrArg some (by kernel_rfl))
  f197 := Tryz.func161.trans (congrArg some (by kernel_rfl))
  f217 := Tryz.func163.trans (congrArg some (by kernel_rfl))
  f218 := Tryz.func162.trans (congrArg some (by kernel_rfl))
  f219 := Tryz.func126.trans (congrArg some (by kernel_rfl))
  f221 := Tryz.func68.trans (congrArg some (by kernel_rfl))
  f224 := Tryz.func165.trans (congrArg some (by kernel_rfl))
  f225 := Tryz.func164.trans (congrArg some (by kernel_rfl))
  f260 := Tryz.func186.trans (congrArg some (by kernel_rfl))
  f266 := Tryz.func187.trans (congrArg some (by kernel_rfl))
  f267 := Tryz.func166.trans (congrArg some (by kernel_rfl))
  f268 := Tryz.func123.trans (congrArg some (by kernel_rfl))
  f314 := Tryz.func188.trans (congrArg some (by kernel_rfl))
  t0 := Tryz.underlying0
  a0 := Tryz.isAgg0
  z0 := Tryz.sizeOf0
  v0 := Tryz.zeroValue0
  t3 := Tryz.underlying3
  a3 := Tryz.isAgg3
  z3 := Tryz.sizeOf3
  v3 := Tryz.zeroValue3
  t4 := Tryz.underlying4
  a4 := Tryz.isAgg4
  z4 := Tryz.sizeOf4
  v4 := Tryz.zeroValue4
  t5 := Tryz.underlying5
  a5 := Tryz.isAgg5
  z5 := Tryz.sizeOf5
  v5 := Tryz.zeroValue5
  t9 := Tryz.underlying9
  a9 := Tryz.isAgg9
  z9 := Tryz.sizeOf9
  v9 := Tryz.zeroValue9
  t21 := Tryz.underlying21
  a21 := Tryz.isAgg21
  z21 := Tryz.sizeOf21
  v21 := Tryz.zeroValue21
  t31 := Tryz.underlying23
  a31 := Tryz.isAgg23
  z31 := Tryz.sizeOf23
  v31 := Tryz.zeroValue23
  t46 := Tryz.underlying135
  a46 := Tryz.isAgg135
  z46 := Tryz.sizeOf135
  v46 := Tryz.zeroValue135
  t51 := Tryz.underlying202
  a51 := Tryz.isAgg202
  z51 := Tryz.sizeOf202
  v51 := Tryz.zeroValue202
  t105 := Tryz.underlying186
  a105 := Tryz.isAgg186
  z105 := Tryz.sizeOf186
  v105 := Tryz.zeroValue186
  t119 := Tryz.underlying215
  a119 := Tryz.isAgg215
  z119 := Tryz.sizeOf215
  t138 := Tryz.underlying217
  a138 := Tryz.isAgg217
  z138 := Tryz.sizeOf217
  v138 := Tryz.zeroValue217
  t139 := Tryz.underlying218
  a139 := Tryz.isAgg218
  z139 := Tryz.sizeOf218
  v139 := Tryz.zeroValue218
  t146 := Tryz.underlying203
  a146 := Tryz.isAgg203
  z146 := Tryz.sizeOf203
  v146 := Tryz.zeroValue203
  g1 := by kernel_rfl
  g3 := by kernel_rfl
  g4 := by kernel_rfl }
open Go.RowKit Go.Lib in
theorem Tryz.strings_Split (s sep : ByteArray) (m : Int) (w : World) (hs : s.size < 4294967281) (hm : w.cell? ⟨0, 0, none⟩ = some (.int .i64 m)) (h1 : 1 ≤ sep.size) :
    Calls Tryz.prog 24 #[.string s, .string sep] w fun e w' =>
      e = .returned (.slice (some ⟨w.heap.size, 0, none⟩) (Lib.countB s sep + 1) (Lib.countB s sep + 1)) ∧ w' = w.alloc (.cells ((Lib.splitB sep 0 (Lib.countB s sep) s).map Value.string).toArray 9) := Any.strings_Split Tryz.lays146 (by kernel_rfl) s sep m w hs hm h1
end Go.Proofs

namespace Go.Proofs.YtbgmkplpolgebaaGreatDoor
set_option linter.unusedSimpArgs false
set_option linter.unusedVariables false
open Go.RowKit Go.Shelf

end Go.Proofs.YtbgmkplpolgebaaGreatDoor

namespace Go.Proofs.YtbgmkplpolgebaaGreatDoor
set_option linter.unusedSimpArgs false
set_option linter.unusedVariables false
open Go.RowKit Go.Shelf

/-- What a call stops with. -/
def toldM (k : Int) : List PanicEntry := [{ v := .iface 94 (.int .i64 k), recovered := false }]
theorem need_no (k : Int) (w : World) : Calls Tryz.prog 23 #[.bool false, .int .i64 k] w fun e w' => e = .panicked (toldM k) ∧ w = w' := by
  go_enter Tryz.func23, Tryz.ntmps23
  go_wp2
  exact ⟨rfl, rfl, rfl⟩
theorem need_yes (k : Int) (w : World) : Calls Tryz.prog 23 #[.bool true, .int .i64 k] w fun e w' => e = .returned (.tuple #[]) ∧ w = w' := by
  go_enter Tryz.func23, Tryz.ntmps23
  go_wp2
  go_end0
  exact ⟨rfl, rfl⟩
theorem caught_idle (p : Addr) (w : World) :
    CallsD Tryz.prog 21 #[.pointer (some p)] .returning w fun e u' w' => e = .returned (.tuple #[]) ∧ u' = .returning ∧ w' = w := by
  refine callsD_of_wpS Tryz.func21 rfl fun c₀ cs hu => ?_
  apply wpS_seq
  apply wpS_region
  simp [wpOpsS, go_sem, recoverD, hu, Tryz.ntmps21, Exit.thenS]
  apply wpS_seq
  refine wpS_of_wp ?_
  go_wp2
  refine wpS_cond (t := false) (by simp [Act.eval, Array.replicate]) ?_
  simp only [Bool.false_eq_true, if_false]
  refine wpS_of_wp (wp_skip ?_)
  cases c₀
  simp_all [bodyPostS, results, Tryz.results21]
set_option maxRecDepth 100000 in
set_option maxHeartbeats 1000000 in
theorem caught_told (q : Nat) (k : Int) (w : World) (hq : Blk w q #[.int .i64 0] 28) :
    CallsD Tryz.prog 21 #[.pointer (some ⟨q, 0, none⟩)] (.panicking (toldM k)) w fun e u' w' =>
      e = .returned (.tuple #[]) ∧ u' = .panicking [{ v := .iface 94 (.int .i64 k), recovered := true }] ∧ Blk w' q #[.int .i64 k] 28 ∧ Mod (fun j => j = q) w w' := by
  obtain ⟨q1, q2, q3⟩ := hq.one
  have HQ := hid hq
  clear hq
  unfold toldM
  have hta : ∀ (x : Int) (w : World), (Instr.typeAssert (.iface 94 (.int .i64 x)) 20 94 true).run Tryz.prog w = .ok (.tuple #[.int .i64 x, .bool true]) w := fun _ _ => by simp [Instr.typeAssert, run_underlying Tryz.underlying94, Result.andThen]
  refine callsD_of_wpS Tryz.func21 rfl fun c₀ cs hu => ?_
  apply wpS_seq
  apply wpS_region
  simp [wpOpsS, go_sem, recoverD, hu, Tryz.ntmps21, Exit.thenS, show Array.replicate 18 undef = #[undef, undef, undef, undef, undef, undef, undef, undef, undef, undef, undef, undef, undef, undef, undef, undef, undef, undef] from rfl, show Array.replicate 19 undef = #[undef, undef, undef, undef, undef, undef, undef, undef, undef, undef, undef, undef, undef, undef, undef, undef, undef, undef, undef] from rfl]
  apply wpS_seq
  refine wpS_of_wp ?_
  go_wp2
  refine wpS_cond (t := true) (by simp [Act.eval, Array.replicate]) ?_
  simp only [if_true]
  refine wpS_of_wp ?_
  go_wp2
  refine ⟨rfl, .panicking [{ v := .iface 94 (.int .i64 k), recovered := true }], ?_, .tuple #[], by simp [results, Tryz.results21], rfl, rfl, ?_, ?_⟩
  · first | rfl | (simp; done) | (cases c₀; simp_all)
  · apply Blk.row
    · repeat (first | with_reducible exact HQ.out | (with_reducible apply Blk.newAt; (simp; done)) | with_reducible apply Blk.alloc | with_reducible apply Blk.drew | with_reducible apply Blk.drewN | with_reducible apply Blk.set | (with_reducible apply Blk.other; · first | (simp; done) | (simp; omega) | omega) | (with_reducible apply Blk.putObj; · first | (simp; done) | (simp; omega) | omega))
    · rfl
  · repeat (first | with_reducible exact Mod.refl _ _ | with_reducible refine Mod.alloc ?_ _ | with_reducible refine Mod.drew ?_ | with_reducible refine Mod.drewN ?_ _ | (with_reducible refine Mod.set ?_ _ _ (by first | exact .inl rfl | (right; omega) | (right; simp; done) | (right; simp; omega) | (left; omega) | (left; simp; done) | (left; simp; omega))) | (with_reducible refine Mod.putObj ?_ _ _ (by first | exact .inl rfl | (right; omega) | (right; simp; done) | (right; simp; omega) | (left; omega) | (left; simp; done) | (left; simp; omega))))
/-- Digits made small from the left. -/
def lowK (d : List UInt8) (k : Nat) : List UInt8 := (d.take k).map lowC ++ d.drop k
theorem lowK_len (d : List UInt8) (k : Nat) : (lowK d k).length = d.length := by unfold lowK; simp; omega
theorem lowK_pre {d : List UInt8} {k : Nat} (h : k < d.length) : ((d.take k).map lowC).length = k := by rw [List.length_map, List.length_take]; omega
theorem lowK_at {d : List UInt8} {k : Nat} (h : k < d.length) : (lowK d k)[k]'(by rw [lowK_len]; exact h) = d[k] := by
  unfold lowK
  rw [List.getElem_append_right (by rw [lowK_pre h]; exact Nat.le_refl _), List.getElem_drop]
  congr 1
  rw [lowK_pre h]; omega
theorem lowK_next {d : List UInt8} {k : Nat} (h : k < d.length) : (lowK d k).set k (lowC d[k]) = lowK d (k + 1) := by
  unfold lowK
  rw [List.set_append_right _ _ (by rw [lowK_pre h]; exact Nat.le_refl _), lowK_pre h, Nat.sub_self, List.drop_eq_getElem_cons h, List.set_cons_zero, List.take_add_one, List.getElem?_eq_getElem h, List.map_append]
  simp only [Option.toList, List.map_cons, List.map_nil, List.append_assoc, List.cons_append, List.nil_append]
theorem lowK_keep {d : List UInt8} {k : Nat} (h : k < d.length) (hc : lowC d[k] = d[k]) : lowK d k = lowK d (k + 1) := by
  unfold lowK
  rw [List.drop_eq_getElem_cons h, List.take_add_one, List.getElem?_eq_getElem h, List.map_append]
  simp only [Option.toList, List.map_cons, List.map_nil, List.append_assoc, List.cons_append, List.nil_append, hc]
theorem lowK_zero (d : List UInt8) : lowK d 0 = d := by simp [lowK]
theorem lowK_all (d : List UInt8) {k : Nat} (h : d.length ≤ k) : lowK d k = d.map lowC := by
  unfold lowK
  rw [List.take_of_length_le h, List.drop_of_length_le h, List.append_nil]
/-- What hexed answers. -/
def hexR : Option (List UInt8) → Ending
  | some x => .returned (.string ⟨x.toArray⟩)
  | none => .panicked (toldM 2)
set_option maxRecDepth 100000 in
set_option maxHeartbeats 4000000 in
theorem hexed_any (s : ByteArray) (w : World) (hs : s.size ≤ 65536) : Calls Tryz.prog 127 #[.string s] w fun e w' => e = hexR (hexC s.data.toList) ∧ New w w' := by
  have hlen : s.data.toList.length = s.size := by rw [Array.length_toList]; rfl
  have hcw := bytes_of w s
  obtain ⟨cap, hcap⟩ : ∃ cap, cap = grownCap w s.size 0 5 := ⟨_, rfl⟩
  have HBY := hid (bytes_lie w s rfl)
  have HBN := hid (bytes_new w s)
  rw [← hcap] at hcw
  obtain ⟨W, hW⟩ : ∃ W, W = afterBytes w s := ⟨_, rfl⟩
  rw [← hW] at hcw HBY HBN
  clear hW hcap
  obtain ⟨d, hd⟩ : ∃ d, d = s.data.toList := ⟨_, rfl⟩
  rw [← hd] at HBY hlen
  rw [← hd]
  clear hd
  go_enter Tryz.func127, Tryz.ntmps127
  go_wp2_with fail
  go_loopw [12] (fun x wr => ∃ (k : Nat), x = .int .i64 k ∧ k ≤ s.size ∧ ByAt wr w.heap.size (lowK d k) ∧ New w wr) (fun x _ => s.size - (intOf x).toNat)
  case atStart => exact ⟨0, rfl, by omega, by rw [lowK_zero]; exact HBY.out, HBN.out⟩
  case round =>
    clear HBY HBN
    obtain ⟨k, rfl, hk, hb, hn⟩ := hrel
    have HB := hid hb; have HN := hid hn
    by_cases hlt : k < s.size
    · have hltI : (k : Int) < (s.size : Int) := by omega
      have hkd : k < d.length := by omega
      have hc := hb.cell (i := k) (by rw [lowK_len]; exact hkd)
      have hf := hb.frz (i := k) (by rw [lowK_len]; exact hkd)
      rw [lowK_at hkd] at hc
      have hbl := hb.lt
      clear hb hn
      obtain ⟨c, hcc⟩ : ∃ c, c = d[k] := ⟨_, rfl⟩
      have HS := hid (lowK_next hkd)
      have HK := hid (lowK_keep hkd)
      have HSET := hid (fun b => HB.out.set (i := k) (by rw [lowK_len]; exact hkd) b)
      rw [← hcc] at hc HS HK
      have hc255 := c.toNat_lt
      clear hcc
      by_cases h1 : 65 ≤ c.toNat
      · have h1I : (65 : Int) ≤ (c.toNat : Int) := by omega
        by_cases h2 : c.toNat ≤ 70
        · have h2I : (c.toNat : Int) ≤ 70 := by omega
          have el : lowC c = c + 32 := by unfold lowC; rw [if_pos ⟨h1, h2⟩]
          have e32 : ((c + 32 : UInt8).toNat) = c.toNat + 32 := by rw [UInt8.toNat_add]; show (c.toNat + 32) % 256 = _; omega
          have w1 : IntKind.u8.wrap ((c.toNat : Int) + 97) = (c.toNat : Int) + 97 := IntWalk.u8_in _ (by omega)
          have w2 : IntKind.u8.wrap ((c.toNat : Int) + 97 - 65) = ((c + 32 : UInt8).toNat : Int) := by rw [IntWalk.u8_in _ (by omega), e32]; omega
          rw [el] at HS
          have HX := hid (HSET.out (c + 32))
          rw [HS.out] at HX
          clear HSET HS HK el e32
          go_wp2_with fail
          exact ⟨⟨k + 1, by simp, by omega, HX.out, Mod.set HN.out ⟨w.heap.size, k, none⟩ _ (.inr (Nat.le_refl _))⟩, by simp [intOf]; omega⟩
        · have h2I : ¬ (c.toNat : Int) ≤ 70 := by omega
          have el : lowC c = c := by unfold lowC; rw [if_neg (by omega)]
          have HX := hid (HK.out el)
          clear HSET HS HK el
          go_wp2_with fail
          exact ⟨⟨k + 1, by simp, by omega, by rw [← HX.out]; exact HB.out, HN.out⟩, by simp [intOf]; omega⟩
      · have h1I : ¬ (65 : Int) ≤ (c.toNat : Int) := by omega
        have el : lowC c = c := by unfold lowC; rw [if_neg (by omega)]
        have HX := hid (HK.out el)
        clear HSET HS HK el
        go_wp2_with fail
        exact ⟨⟨k + 1, by simp, by omega, by rw [← HX.out]; exact HB.out, HN.out⟩, by simp [intOf]; omega⟩
    · have hltI : ¬ (k : Int) < (s.size : Int) := by omega
      rw [lowK_all d (by omega)] at hb
      have hcv := hb.text s.size cap (by simp [hlen])
      have HFX := hid (fun W => fromHex_any ⟨(d.map lowC).toArray⟩ W (by show (d.map lowC).toArray.size ≤ _; simp; omega))
      rw [show (⟨(d.map lowC).toArray⟩ : ByteArray).data.toList = d.map lowC by simp] at HFX
      obtain ⟨T, hT⟩ : ∃ T : ByteArray, T = ⟨(d.map lowC).toArray⟩ := ⟨_, rfl⟩
      rw [← hT] at hcv HFX
      clear hT hb hn HB
      cases hx : hexC d with
      | none =>
        have HXX := hid hx
        obtain ⟨u1, u2⟩ := unhex_no hx
        rw [u1, u2] at HFX
        clear hx u1 u2
        go_wp2_with fail
        refine (HFX.out _).mono ?_
        rintro e w2 ⟨rfl, n2⟩
        have N2 := hid (HN.out.trans n2)
        clear n2
        go_wp2_with fail
        refine (need_no 2 _).mono ?_
        rintro e w3 ⟨rfl, rfl⟩
        go_wp2
        exact ⟨rfl, by rw [HXX.out]; rfl, N2.out⟩
      | some t =>
        have HXX := hid hx
        obtain ⟨u1, u2⟩ := unhex_yes hx
        rw [u1, u2] at HFX
        obtain ⟨X, hX⟩ : ∃ X : ByteArray, X = ⟨t.toArray⟩ := ⟨_, rfl⟩
        rw [← hX] at HFX
        have HX := hid hX
        clear hx u1 u2 hX
        go_wp2_with fail
        refine (HFX.out _).mono ?_
        rintro e w2 ⟨rfl, n2⟩
        have N2 := hid (HN.out.trans n2)
        clear n2
        go_wp2_with fail
        refine (need_yes 2 _).mono ?_
        rintro e w3 ⟨rfl, rfl⟩
        go_wp2
        go_ret
        exact ⟨by rw [HXX.out, HX.out]; rfl, N2.out⟩
end Go.Proofs.YtbgmkplpolgebaaGreatDoor
