/-
  Several texts in one, in their build order. How a path, and a list of files, lie in memory. Plain facts on worlds. No condition. The walks of part (package files) and Part (the reference): whether a text is a part of a path. Condition: the text is no longer than an int tells. Contracts of the kit's shelf laid at this program, in plain words, written by the kit's tool. No condition. Calls that turn nothing, within a region that draws its order (the world stands at the left). Over any program. No condition.
-/
import Derived.Test.YtnhgichiedninaaGreatDoorM1
import Derived.Shelf.Strings.Builder1
import Derived.Shelf.Strings.Builder2
import Derived.Shelf.Strings.OnBuilder
import Derived.Shelf.Small.Utf8
import Derived.Shelf.Small.Bits
import Derived.Shelf.Small.Strs
import Derived.Shelf.Strings.BuilderF
import Derived.Shelf.Strings.BuilderK
import Derived.Shelf.Strconv.Itoa0
import Derived.Shelf.Strconv.Itoa1
import Derived.Shelf.LaysM
import Derived.Shelf.Strconv.Itoa2
import Derived.Shelf.Strconv.Itoa3
import Derived.Shelf.Strings.Search1
import Derived.Shelf.Strings.Search2
import Derived.Shelf.Strings.Search3
import Derived.Shelf.Strings.Shaped
import Derived.Shelf.Strings.Prefix
import Derived.Shelf.Unicode.Latin
import Derived.Shelf.Bits.Mul64
import Derived.Shelf.Strings.Repeat
import Derived.Shelf.Unicode.DecodeSlow
import Derived.Shelf.Unicode.CaseLookup
import Derived.Shelf.Unicode.CaseConvert
import Derived.Shelf.Unicode.CaseTo
import Derived.Shelf.Unicode.CaseLaid
import Derived.Shelf.Slices.Turned
import Derived.Shelf.Slices.Equal
import Derived.Shelf.Slices.Empties2
import Derived.Test.YtnhgichiedninaaGreatDoorProg
import Derived.Deep.QuietTactic
import Derived.BigQuiet
namespace Go.Proofs.YtnhgichiedninaaGreatDoor
set_option linter.unusedSimpArgs false
set_option linter.unusedVariables false
open Go.RowKit

theorem New.cell {w w' : World} (h : New w w') {p : Addr} (hp : p.block < w.heap.size) : w'.cell? p = w.cell? p := World.cell?_of_block (w := w) (h.block p.block hp (fun x => x))
theorem New.cellv {w w' : World} (h : New w w') {p : Addr} {v : Value} (hp : w.cell? p = some v) : w'.cell? p = some v := (h.cell (World.block_lt_of_cell? _ _ hp)).trans hp
theorem Mod.cellv {S : Nat → Prop} {w w' : World} (h : Mod S w w') {p : Addr} {v : Value} (hp : w.cell? p = some v) (hn : ¬ S p.block) : w'.cell? p = some v :=
  (World.cell?_of_block (w := w) (h.block p.block (World.block_lt_of_cell? _ _ hp) hn)).trans hp

/-- The slice of length p.length and capacity c at a holds the texts p. -/
structure StrsAt (w : World) (a : Option Addr) (c : Nat) (p : List ByteArray) : Prop where
  room : p.length ≤ c
  cap : c ≤ maxLen
  small : ∀ s ∈ p, s.size ≤ maxLen
  at' : p = [] ∨ ∃ b o, a = some ⟨b, o, none⟩ ∧ b < w.heap.size ∧ ∀ (i : Nat) s, p[i]? = some s → w.cell? ⟨b, o + i, none⟩ = some (.string s)
theorem StrsAt.new {w w' : World} {a : Option Addr} {c : Nat} {p : List ByteArray} (h : StrsAt w a c p) (hn : New w w') : StrsAt w' a c p := by
  refine ⟨h.room, h.cap, h.small, ?_⟩
  rcases h.at' with h | ⟨b, o, e, hb, hc⟩
  · exact .inl h
  · exact .inr ⟨b, o, e, Nat.lt_of_lt_of_le hb hn.size, fun i s hs => hn.cellv (hc i s hs)⟩
/-- .. where it is not empty. -/
theorem StrsAt.get {w : World} {a : Option Addr} {c : Nat} {p : List ByteArray} (h : StrsAt w a c p) (hp : 0 < p.length) : ∃ b o, a = some ⟨b, o, none⟩ ∧ b < w.heap.size ∧ ∀ (i : Nat) (hi : i < p.length), w.cell? ⟨b, o + i, none⟩ = some (.string p[i]) := by
  rcases h.at' with h | ⟨b, o, e, hb, hc⟩
  · simp [h] at hp
  · exact ⟨b, o, e, hb, fun i hi => hc i _ (List.getElem?_eq_getElem hi)⟩
theorem StrsAt.take {w : World} {a : Option Addr} {c : Nat} {p : List ByteArray} (h : StrsAt w a c p) (k : Nat) : StrsAt w a c (p.take k) := by
  refine ⟨by have := h.room; simp; omega, h.cap, fun s hs => h.small s (List.mem_of_mem_take hs), ?_⟩
  rcases h.at' with h | ⟨b, o, e, hb, hc⟩
  · exact .inl (by simp [h])
  · refine .inr ⟨b, o, e, hb, fun i s hs => hc i s ?_⟩
    rw [List.getElem?_take] at hs
    split at hs
    · exact hs
    · cases hs

/-- The cells of the file f, from the address (b, o) on. -/
def FileAt (w : World) (b o : Nat) (f : FileV) : Prop :=
  ∃ pa pc, w.cell? ⟨b, o, none⟩ = some (.slice pa f.path.length pc) ∧ w.cell? ⟨b, o + 1, none⟩ = some (.int .i64 f.len) ∧ w.cell? ⟨b, o + 2, none⟩ = some (.bool f.pad) ∧ StrsAt w pa pc f.path ∧ (-9223372036854775808 ≤ f.len ∧ f.len ≤ 9223372036854775807)
theorem FileAt.new {w w' : World} {b o : Nat} {f : FileV} (h : FileAt w b o f) (hn : New w w') : FileAt w' b o f := by
  obtain ⟨pa, pc, h1, h2, h3, h4, h5⟩ := h
  exact ⟨pa, pc, hn.cellv h1, hn.cellv h2, hn.cellv h3, h4.new hn, h5⟩
/-- The slice of length l.length and capacity c at a holds the files l. -/
structure FilesAt (w : World) (a : Option Addr) (c : Nat) (l : List FileV) : Prop where
  room : l.length ≤ c
  cap : c ≤ maxLen
  at' : l = [] ∨ ∃ b o, a = some ⟨b, o, none⟩ ∧ b < w.heap.size ∧ ∀ (i : Nat) f, l[i]? = some f → FileAt w b (o + i * 3) f
theorem FilesAt.new {w w' : World} {a : Option Addr} {c : Nat} {l : List FileV} (h : FilesAt w a c l) (hn : New w w') : FilesAt w' a c l := by
  refine ⟨h.room, h.cap, ?_⟩
  rcases h.at' with h | ⟨b, o, e, hb, hc⟩
  · exact .inl h
  · exact .inr ⟨b, o, e, Nat.lt_of_lt_of_le hb hn.size, fun i f hf => (hc i f hf).new hn⟩
theorem FilesAt.get {w : World} {a : Option Addr} {c : Nat} {l : List FileV} (h : FilesAt w a c l) (hp : 0 < l.length) : ∃ b o, a = some ⟨b, o, none⟩ ∧ b < w.heap.size ∧ ∀ (i : Nat) (hi : i < l.length), FileAt w b (o + i * 3) l[i] := by
  rcases h.at' with h | ⟨b, o, e, hb, hc⟩
  · simp [h] at hp
  · exact ⟨b, o, e, hb, fun i hi => hc i _ (List.getElem?_eq_getElem hi)⟩
theorem FilesAt.take {w : World} {a : Option Addr} {c : Nat} {l : List FileV} (h : FilesAt w a c l) (k : Nat) : FilesAt w a c (l.take k) := by
  refine ⟨by have := h.room; simp; omega, h.cap, ?_⟩
  rcases h.at' with h | ⟨b, o, e, hb, hc⟩
  · exact .inl (by simp [h])
  · refine .inr ⟨b, o, e, hb, fun i f hf => hc i f ?_⟩
    rw [List.getElem?_take] at hf
    split at hf
    · exact hf
    · cases hf
theorem FilesAt.fits {w : World} {a : Option Addr} {c : Nat} {l : List FileV} (h : FilesAt w a c l) : Fits l := by
  intro f hf
  obtain ⟨i, hi, rfl⟩ := List.mem_iff_getElem.1 hf
  obtain ⟨b, o, -, -, hc⟩ := h.get (by omega)
  obtain ⟨_, _, -, -, -, -, h5⟩ := hc i hi
  exact h5
/-- A file as it is handed over. -/
abbrev fileV (pa : Option Addr) (pc : Nat) (f : FileV) : Value := .agg #[.slice pa f.path.length pc, .int .i64 f.len, .bool f.pad]
abbrev frow (pa : Option Addr) (pc : Nat) (f : FileV) : Array Value := #[.slice pa f.path.length pc, .int .i64 f.len, .bool f.pad]
theorem Blk.file {w : World} {b : Nat} {pa : Option Addr} {pc : Nat} {f : FileV} {t : TypeId} (h : Blk w b (frow pa pc f) t) : w.cell? ⟨b, 0, none⟩ = some (.slice pa f.path.length pc) ∧ w.cell? ⟨b, 1, none⟩ = some (.int .i64 f.len) ∧ w.cell? ⟨b, 2, none⟩ = some (.bool f.pad) ∧ (∀ i, w.frozen? ⟨b, i, none⟩ = false) ∧ b < w.heap.size :=
  ⟨h.cellv 0 rfl, h.cellv 1 rfl, h.cellv 2 rfl, h.frz, h.lt⟩
end Go.Proofs.YtnhgichiedninaaGreatDoor

namespace Go.Proofs.YtnhgichiedninaaGreatDoor
set_option linter.unusedSimpArgs false
set_option linter.unusedVariables false
open Go.RowKit

theorem part_bad {s : ByteArray} {k : Nat} (hk : k < s.size) (h : badByte (s.get! k) = true) : partOk s = false := by
  have hk' : k < s.data.toList.length := by simpa using hk
  have hm : s.get! k ∈ s.data.toList := by
    have e : s.get! k = s.data.toList[k] := by
      show s.data[k]! = _
      rw [Array.getElem!_eq_getD, Array.getD_eq_getD_getElem?, Array.getElem?_eq_getElem (by simpa using hk)]
      simp
    rw [e]
    exact List.getElem_mem _
  have : s.data.toList.all (fun c => !badByte c) = false := by
    rw [List.all_eq_false]
    exact ⟨_, hm, by simp [h]⟩
  simp [partOk, this]
theorem part_good {s : ByteArray} {k : Nat} (hk : ¬ k < s.size) (h : ∀ j, j < k → badByte (s.get! j) = false) : partOk s = (decide (1 ≤ s.size) && decide (s.size ≤ 40) && !decide (s = dot) && !decide (s = dots)) := by
  have : s.data.toList.all (fun c => !badByte c) = true := by
    rw [List.all_eq_true]
    intro c hc
    obtain ⟨j, hj, rfl⟩ := List.mem_iff_getElem.1 hc
    have hj' : j < s.size := by simpa using hj
    have := h j (by omega)
    have e : s.get! j = s.data.toList[j] := by
      show s.data[j]! = _
      rw [Array.getElem!_eq_getD, Array.getD_eq_getD_getElem?, Array.getElem?_eq_getElem (by simpa using hj)]
      simp
    rw [← e, this]
    rfl
  simp [partOk, this]
theorem get_at {s : ByteArray} {k : Nat} (hk : k < s.size) : s.get! k = s[k] := by
  show s.data[k]! = _
  rw [Array.getElem!_eq_getD, Array.getD_eq_getD_getElem?, Array.getElem?_eq_getElem (by simpa using hk)]
  rfl
theorem bad_is {s : ByteArray} {k : Nat} (hk : k < s.size) : badByte (s.get! k) = (decide ((s[k].toNat : Int) < 32) || ((s[k].toNat : Int) == 127) || ((s[k].toNat : Int) == 47) || ((s[k].toNat : Int) == 92)) := by
  rw [get_at hk, badByte]
  have e : ∀ n : Nat, ((s[k].toNat : Int) == (n : Int)) = decide (s[k].toNat = n) := fun n => by
    rw [Bool.eq_iff_iff]; simp; omega
  rw [show (127 : Int) = ((127 : Nat) : Int) from rfl, show (47 : Int) = ((47 : Nat) : Int) from rfl, show (92 : Int) = ((92 : Nat) : Int) from rfl, e, e, e]
  have : decide ((s[k].toNat : Int) < 32) = decide (s[k].toNat < 32) := by rw [Bool.eq_iff_iff]; simp; omega
  rw [this]


set_option maxHeartbeats 1000000 in
theorem part_any (s : ByteArray) (w : World) (hs : s.size ≤ maxLen) :
    Calls Tryz.prog 162 #[.string s] w fun e w' => e = .returned (.bool (partOk s)) ∧ w = w' := by
  unfold maxLen at hs
  go_enter Tryz.func162, Tryz.ntmps162
  go_wp2
  go_loopw [7] (fun i wr => ∃ k : Nat, i = .int .i64 k ∧ k ≤ s.size ∧ (∀ j, j < k → badByte (s.get! j) = false) ∧ wr = w) (fun i _ => s.size - (intOf i).toNat)
  case atStart => exact ⟨0, rfl, by omega, by omega, rfl⟩
  case round =>
    obtain ⟨k, rfl, hk, hb, rfl⟩ := hrel
    have HB := hid hb
    clear hb
    by_cases hlt : k < s.size
    · have HE := hid (bad_is hlt)
      cases e1 : decide ((s[k].toNat : Int) < 32) with
      | true =>
        have HP := hid (part_bad hlt (by rw [HE.out, e1]; rfl))
        go_wp2
        go_ret
        exact ⟨ret_bool HP.out.symm, rfl⟩
      | false =>
        cases e2 : ((s[k].toNat : Int) == 127) with
        | true =>
          have HP := hid (part_bad hlt (by rw [HE.out, e1, e2]; rfl))
          go_wp2
          go_ret
          exact ⟨ret_bool HP.out.symm, rfl⟩
        | false =>
          cases e3 : ((s[k].toNat : Int) == 47) with
          | true =>
            have HP := hid (part_bad hlt (by rw [HE.out, e1, e2, e3]; rfl))
            go_wp2
            go_ret
            exact ⟨ret_bool HP.out.symm, rfl⟩
          | false =>
            cases e4 : ((s[k].toNat : Int) == 92) with
            | true =>
              have HP := hid (part_bad hlt (by rw [HE.out, e1, e2, e3, e4]; rfl))
              go_wp2
              go_ret
              exact ⟨ret_bool HP.out.symm, rfl⟩
            | false =>
              have HN := hid (show badByte (s.get! k) = false by rw [HE.out, e1, e2, e3, e4]; rfl)
              go_wp2
              exact ⟨⟨k + 1, by simp, by omega, fun j hj => by rcases Nat.lt_succ_iff_lt_or_eq.1 hj with h | h; exact HB.out j h; subst h; exact HN.out, trivial⟩, by simp [intOf]; omega⟩
    · have HP := hid (part_good hlt HB.out)
      by_cases q1 : (1 : Int) ≤ s.size
      · by_cases q2 : (s.size : Int) ≤ 40
        · have HP2 := hid (show partOk s = (!(s.toList == [46]) && !(s.toList == [46, 46])) by
            rw [HP.out, lit_eq, lit_eq, decide_eq_true (show 1 ≤ s.size by omega), decide_eq_true (show s.size ≤ 40 by omega)]
            rfl)
          cases e5 : s.toList == [46] with
          | true =>
            go_wp2
            go_ret
            exact ⟨ret_bool (by rw [HP2.out, e5]; rfl), rfl⟩
          | false =>
            go_wp2
            go_ret
            exact ⟨ret_bool (by rw [HP2.out, e5]; rfl), rfl⟩
        · go_wp2
          go_ret
          refine ⟨ret_bool ?_, rfl⟩
          rw [HP.out]
          simp; omega
      · go_wp2
        go_ret
        refine ⟨ret_bool ?_, rfl⟩
        rw [HP.out]
        simp; omega
set_option maxHeartbeats 1000000 in
theorem rPart_any (s : ByteArray) (w : World) (hs : s.size ≤ maxLen) :
    Calls Tryz.prog 156 #[.string s] w fun e w' => e = .returned (.bool (partOk s)) ∧ w = w' := by
  unfold maxLen at hs
  go_enter Tryz.func156, Tryz.ntmps156
  go_wp2
  go_loopw [6] (fun i wr => ∃ k : Nat, i = .int .i64 k ∧ k ≤ s.size ∧ (∀ j, j < k → badByte (s.get! j) = false) ∧ wr = w) (fun i _ => s.size - (intOf i).toNat)
  case atStart => exact ⟨0, rfl, by omega, by omega, rfl⟩
  case round =>
    obtain ⟨k, rfl, hk, hb, rfl⟩ := hrel
    have HB := hid hb
    clear hb
    by_cases hlt : k < s.size
    · have HE := hid (bad_is hlt)
      cases e1 : decide ((s[k].toNat : Int) < 32) with
      | true =>
        have HP := hid (part_bad hlt (by rw [HE.out, e1]; rfl))
        go_wp2
        go_ret
        exact ⟨ret_bool HP.out.symm, rfl⟩
      | false =>
        cases e2 : ((s[k].toNat : Int) == 127) with
        | true =>
          have HP := hid (part_bad hlt (by rw [HE.out, e1, e2]; rfl))
          go_wp2
          go_ret
          exact ⟨ret_bool HP.out.symm, rfl⟩
        | false =>
          cases e3 : ((s[k].toNat : Int) == 47) with
          | true =>
            have HP := hid (part_bad hlt (by rw [HE.out, e1, e2, e3]; rfl))
            go_wp2
            go_ret
            exact ⟨ret_bool HP.out.symm, rfl⟩
          | false =>
            cases e4 : ((s[k].toNat : Int) == 92) with
            | true =>
              have HP := hid (part_bad hlt (by rw [HE.out, e1, e2, e3, e4]; rfl))
              go_wp2
              go_ret
              exact ⟨ret_bool HP.out.symm, rfl⟩
            | false =>
              have HN := hid (show badByte (s.get! k) = false by rw [HE.out, e1, e2, e3, e4]; rfl)
              go_wp2
              exact ⟨⟨k + 1, by simp, by omega, fun j hj => by rcases Nat.lt_succ_iff_lt_or_eq.1 hj with h | h; exact HB.out j h; subst h; exact HN.out, trivial⟩, by simp [intOf]; omega⟩
    · have HP := hid (part_good hlt HB.out)
      by_cases q1 : (1 : Int) ≤ s.size
      · by_cases q2 : (s.size : Int) ≤ 40
        · have HP2 := hid (show partOk s = (!(s.toList == [46]) && !(s.toList == [46, 46])) by
            rw [HP.out, lit_eq, lit_eq, decide_eq_true (show 1 ≤ s.size by omega), decide_eq_true (show s.size ≤ 40 by omega)]
            rfl)
          cases e5 : s.toList == [46] with
          | true =>
            go_wp2
            go_ret
            exact ⟨ret_bool (by rw [HP2.out, e5]; rfl), rfl⟩
          | false =>
            go_wp2
            go_ret
            exact ⟨ret_bool (by rw [HP2.out, e5]; rfl), rfl⟩
        · go_wp2
          go_ret
          refine ⟨ret_bool ?_, rfl⟩
          rw [HP.out]
          simp; omega
      · go_wp2
        go_ret
        refine ⟨ret_bool ?_, rfl⟩
        rw [HP.out]
        simp; omega
end Go.Proofs.YtnhgichiedninaaGreatDoor

namespace Go.Proofs
open Go.Shelf
def Tryz.lays156_ren : Go.Shelf.Ren := ⟨fun | 156 => 133 | 165 => 98 | 166 => 99 | 169 => 101 | 240 => 144 | 241 => 145 | 276 => 165 | 277 => 166 | n => n, fun | 31 => 22 | 9 => 9 | 3 => 3 | 4 => 4 | 0 => 0 | 20 => 20 | 72 => 155 | 76 => 159 | 70 => 153 | 37 => 83 | 75 => 158 | 127 => 209 | 164 => 228 | 5 => 5 | 80 => 104 | n => n, fun | n => n⟩
theorem Tryz.lays156 : Go.Proofs.Lays.n156 Tryz.prog Tryz.lays156_ren := {
  mixed := by kernel_rfl
  f156 := Tryz.func133.trans (congrArg some (by kernel_rfl))
  f165 := Tryz.func98.trans (congrArg some (by kernel_rfl))
  f166 := Tryz.func99.trans (congrArg some (by kernel_rfl))
  f169 := Tryz.func101.trans (congrArg some (by kernel_rfl))
  f240 := Tryz.func144.trans (congrArg some (by kernel_rfl))
  f241 := Tryz.func145.trans (congrArg some (by kernel_rfl))
  f276 := Tryz.func165.trans (congrArg some (by kernel_rfl))
  f277 := Tryz.func166.trans (congrArg some (by kernel_rfl))
  t0 := Tryz.underlying0
  a0 := Tryz.isAgg0
  z0 := Tryz.sizeOf0
  v0 := Tryz.zeroValue0
  t3 := Tryz.underlying3
  a3 := Tryz.isAgg3
  z3 := Tryz.sizeOf3
  v3 := Tryz.zeroValue3
  t4 := Tryz.underlying4
  a4 := Tryz.isAgg4
  z4 := Tryz.sizeOf4
  v4 := Tryz.zeroValue4
  t9 := Tryz.underlying9
  a9 := Tryz.isAgg9
  z9 := Tryz.sizeOf9
  v9 := Tryz.zeroValue9
  t20 := Tryz.underlying20
  a20 := Tryz.isAgg20
  z20 := Tryz.sizeOf20
  v20 := Tryz.zeroValue20
  t31 := Tryz.underlying22
  a31 := Tryz.isAgg22
  z31 := Tryz.sizeOf22
  v31 := Tryz.zeroValue22
  t37 := Tryz.underlying83
  a37 := Tryz.isAgg83
  z37 := Tryz.sizeOf83
  v37 := Tryz.zeroValue83
  t70 := Tryz.underlying153
  a70 := Tryz.isAgg153
  z70 := Tryz.sizeOf153
  v70 := Tryz.zeroValue153
  t72 := Tryz.underlying155
  a72 := Tryz.isAgg155
  z72 := Tryz.sizeOf155
  v72 := Tryz.zeroValue155
  t75 := Tryz.underlying158
  a75 := Tryz.isAgg158
  z75 := Tryz.sizeOf158
  v75 := Tryz.zeroValue158
  t76 := Tryz.underlying159
  a76 := Tryz.isAgg159
  z76 := Tryz.sizeOf159
  v76 := Tryz.zeroValue159
  t127 := Tryz.underlying209
  a127 := Tryz.isAgg209
  z127 := Tryz.sizeOf209
  v127 := Tryz.zeroValue209
  t164 := Tryz.underlying228
  a164 := Tryz.isAgg228
  z164 := Tryz.sizeOf228
  v164 := Tryz.zeroValue228 }
theorem Tryz.Builder_Extra_156 : Builder.Extra Tryz.prog Tryz.lays156_ren := {
  sizeBuilder := by kernel_rfl
  liesBuilder := by kernel_rfl
  t5 := Tryz.underlying5
  a5 := Tryz.isAgg5
  z5 := Tryz.sizeOf5
  v5 := Tryz.zeroValue5
  infoByte := by kernel_rfl
  cellsByte := by kernel_rfl
  sizeByte := by kernel_rfl
  neB5 := by decide }
open Go.RowKit in
theorem Tryz.strings_Join_none (a : Option Addr) (c : Nat) (sep : ByteArray) (w : World) :
    Calls Tryz.prog 133 #[.slice a 0 c, .string sep] w fun e w' => e = .returned (.string ⟨#[]⟩) ∧ w' = w := Any.strings_Join_none Tryz.lays156 Tryz.Builder_Extra_156 a c sep w
open Go.RowKit in
theorem Tryz.strings_Join (bk o c : Nat) (xs : List ByteArray) (sep : ByteArray) (w : World) (hcells : ∀ (j : Nat) x, xs[j]? = some x → w.cell? ⟨bk, o + j, none⟩ = some (.string x)) (hbk : bk < w.heap.size) (hN : xs.length ≤ 140737488355328) (hcap : xs.length ≤ c) (hlen : (Lib.join (xs.map (·.data.toList)) sep.data.toList).length ≤ 140737488355328) :
    Calls Tryz.prog 133 #[.slice (some ⟨bk, o, none⟩) xs.length c, .string sep] w fun e w' => e = .returned (.string ⟨(Lib.join (xs.map (·.data.toList)) sep.data.toList).toArray⟩) ∧ Below w.heap.size w w' := Any.strings_Join Tryz.lays156 Tryz.Builder_Extra_156 bk o c xs sep w hcells hbk hN hcap hlen
def Tryz.laysM171_ren : Go.Shelf.Ren := ⟨fun | 171 => 71 | 243 => 103 | 246 => 146 | 283 => 167 | 284 => 168 | 285 => 169 | 286 => 170 | 129 => 117 | 317 => 179 | 318 => 180 | 319 => 181 | 320 => 182 | 337 => 190 | 338 => 191 | n => n, fun | 3 => 3 | 9 => 9 | 2 => 2 | 4 => 4 | 171 => 231 | 0 => 0 | 53 => 175 | 37 => 83 | 5 => 5 | 173 => 233 | 212 => 245 | 51 => 173 | 20 => 20 | 213 => 246 | 46 => 138 | 232 => 259 | 233 => 260 | n => n, fun | 17 => 1 | 18 => 5 | 19 => 6 | n => n⟩
theorem Tryz.laysM171 : Go.Proofs.LaysM.n171 Tryz.prog Tryz.laysM171_ren := {
  mixed := by kernel_rfl
  f129 := Tryz.func117.trans (congrArg some (by kernel_rfl))
  f171 := Tryz.func71.trans (congrArg some (by kernel_rfl))
  f243 := Tryz.func103.trans (congrArg some (by kernel_rfl))
  f246 := Tryz.func146.trans (congrArg some (by kernel_rfl))
  f283 := Tryz.func167.trans (congrArg some (by kernel_rfl))
  f284 := Tryz.func168.trans (congrArg some (by kernel_rfl))
  f285 := Tryz.func169.trans (congrArg some (by kernel_rfl))
  f286 := Tryz.func170.trans (congrArg some (by kernel_rfl))
  f317 := Tryz.func179.trans (congrArg some (by kernel_rfl))
  f318 := Tryz.func180.trans (congrArg some (by kernel_rfl))
  f319 := Tryz.func181.trans (congrArg some (by kernel_rfl))
  f320 := Tryz.func182.trans (congrArg some (by kernel_rfl))
  f337 := Tryz.func190.trans (congrArg some (by kernel_rfl))
  f338 := Tryz.func191.trans (congrArg some (by kernel_rfl))
  t0 := Tryz.underlying0
  a0 := Tryz.isAgg0
  z0 := Tryz.sizeOf0
  v0 := Tryz.zeroValue0
  t2 := Tryz.underlying2
  a2 := Tryz.isAgg2
  z2 := Tryz.sizeOf2
  v2 := Tryz.zeroValue2
  t3 := Tryz.underlying3
  a3 := Tryz.isAgg3
  z3 := Tryz.sizeOf3
  v3 := Tryz.zeroValue3
  t4 := Tryz.underlying4
  a4 := Tryz.isAgg4
  z4 := Tryz.sizeOf4
  v4 := Tryz.zeroValue4
  t5 := Tryz.underlying5
  a5 := Tryz.isAgg5
  z5 := Tryz.sizeOf5
  v5 := Tryz.zeroValue5
  t9 := Tryz.underlying9
  a9 := Tryz.isAgg9
  z9 := Tryz.sizeOf9
  v9 := Tryz.zeroValue9
  t20 := Tryz.underlying20
  a20 := Tryz.isAgg20
  z20 := Tryz.sizeOf20
  v20 := Tryz.zeroValue20
  t37 := Tryz.underlying83
  a37 := Tryz.isAgg83
  z37 := Tryz.sizeOf83
  v37 := Tryz.zeroValue83
  t46 := Tryz.underlying138
  a46 := Tryz.isAgg138
  z46 := Tryz.sizeOf138
  v46 := Tryz.zeroValue138
  t51 := Tryz.underlying173
  a51 := Tryz.isAgg173
  z51 := Tryz.sizeOf173
  v51 := Tryz.zeroValue173
  t53 := Tryz.underlying175
  a53 := Tryz.isAgg175
  z53 := Tryz.sizeOf175
  v53 := Tryz.zeroValue175
  t171 := Tryz.underlying231
  a171 := Tryz.isAgg231
  z171 := Tryz.sizeOf231
  v171 := Tryz.zeroValue231
  t173 := Tryz.underlying233
  a173 := Tryz.isAgg233
  z173 := Tryz.sizeOf233
  v173 := Tryz.zeroValue233
  t212 := Tryz.underlying245
  a212 := Tryz.isAgg245
  z212 := Tryz.sizeOf245
  v212 := Tryz.zeroValue245
  t213 := Tryz.underlying246
  a213 := Tryz.isAgg246
  z213 := Tryz.sizeOf246
  t232 := Tryz.underlying259
  a232 := Tryz.isAgg259
  z232 := Tryz.sizeOf259
  v232 := Tryz.zeroValue259
  t233 := Tryz.underlying260
  a233 := Tryz.isAgg260
  z233 := Tryz.sizeOf260
  v233 := Tryz.zeroValue260
  g17 := by kernel_rfl
  g18 := by kernel_rfl
  g19 := by kernel_rfl
  i0 := by kernel_rfl
  i2 := by kernel_rfl
  i3 := by kernel_rfl
  i4 := by kernel_rfl
  i5 := by kernel_rfl
  i9 := by kernel_rfl
  i20 := by kernel_rfl
  i37 := by kernel_rfl
  i46 := by kernel_rfl
  i51 := by kernel_rfl
  i53 := by kernel_rfl
  i171 := by kernel_rfl
  i173 := by kernel_rfl
  i212 := by kernel_rfl
  i232 := by kernel_rfl
  i233 := by kernel_rfl
  m17 := by kernel_rfl
  m18 := by kernel_rfl
  m19 := by kernel_rfl }
open Go.RowKit Go.Sort Go.Lib in
theorem Tryz.strconv_Itoa (n : Int) (h0 : -9223372036854775808 ≤ n) (h1 : n ≤ 9223372036854775807) (w : World) (htab : Lib.TabIs Tryz.prog w "internal/strconv.uint64pow10" .u64 Lib.pow10Tab) :
    Calls Tryz.prog 71 #[.int .i64 n] w fun e w' => e = .returned (.string ⟨(Lib.itoa n).toArray⟩) ∧ ∃ k os, w' = grow (w.drewN k) os := Any.strconv_Itoa Tryz.laysM171 n h0 h1 w htab
end Go.Proofs

namespace Go.Proofs.YtnhgichiedninaaGreatDoor
set_option linter.unusedSimpArgs false
set_option linter.unusedVariables false
open Go.RowKit
theorem quiet_add_left {P : Program} {f : FuncId} {args : Array Value} {w : World} {a n : Nat} {v : Value}
    (h : Calls P f args (w.drewN (a + n)) fun e w' => e = .returned v ∧ w.drewN (a + n) = w') :
    Calls P f args (w.drewN (a + n)) fun e w'' => e = .returned v ∧ ∃ m, w'' = w.drewN (a + m) :=
  h.mono fun _ _ ⟨he, hm⟩ => ⟨he, n, hm.symm⟩
theorem quiet_left {P : Program} {f : FuncId} {args : Array Value} {w : World} {n : Nat} {v : Value}
    (h : Calls P f args (w.drewN n) fun e w' => e = .returned v ∧ w.drewN n = w') : Calls P f args (w.drewN n) fun e w'' => e = .returned v ∧ ∃ m, w'' = w.drewN m :=
  h.mono fun _ _ ⟨he, hm⟩ => ⟨he, n, hm.symm⟩
theorem Blk.drewN {w : World} {b : Nat} {cs : Array Value} {t : TypeId} (h : Blk w b cs t) (n : Nat) : Blk (w.drewN n) b cs t := h
theorem Mod.drewN {S : Nat → Prop} {a b : World} (h : Mod S a b) (n : Nat) : Mod S a (b.drewN n) := ⟨h.os, h.tape, h.output, h.size, h.block⟩
end Go.Proofs.YtnhgichiedninaaGreatDoor
