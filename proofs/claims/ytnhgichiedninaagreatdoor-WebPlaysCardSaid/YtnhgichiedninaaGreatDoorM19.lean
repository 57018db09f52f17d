/-
  Several texts in one, in their build order. The walk of When (package web). Conditions: the client lies as told. The walks of part (package files) and Part (the reference): whether a text is a part of a path. Condition: the text is no longer than an int tells. Contracts of the kit's shelf laid at this program, in plain words, written by the kit's tool. No condition.
-/
import Derived.Test.YtnhgichiedninaaGreatDoorM18
import Derived.Test.YtnhgichiedninaaGreatDoorM1
import Derived.Test.YtnhgichiedninaaGreatDoorM3
import Derived.Shelf.Strings.Builder1
import Derived.Shelf.Strings.Builder2
import Derived.Shelf.Strings.OnBuilder
import Derived.Shelf.Small.Utf8
import Derived.Shelf.Small.Bits
import Derived.Shelf.Small.Strs
import Derived.Shelf.Strings.BuilderF
import Derived.Shelf.Strings.BuilderK
import Derived.Shelf.Strconv.Itoa0
import Derived.Shelf.Strconv.Itoa1
import Derived.Shelf.LaysM
import Derived.Shelf.Strconv.Itoa2
import Derived.Shelf.Strconv.Itoa3
import Derived.Shelf.Strings.Search1
import Derived.Shelf.Strings.Search2
import Derived.Shelf.Strings.Search3
import Derived.Shelf.Strings.Shaped
import Derived.Shelf.Strings.Prefix
import Derived.Shelf.Unicode.Latin
import Derived.Shelf.Bits.Mul64
import Derived.Shelf.Strings.Repeat
import Derived.Shelf.Unicode.DecodeSlow
import Derived.Shelf.Unicode.CaseLookup
import Derived.Shelf.Unicode.CaseConvert
import Derived.Shelf.Unicode.CaseTo
import Derived.Shelf.Unicode.CaseLaid
import Derived.Shelf.Slices.Turned
import Derived.Shelf.Slices.Equal
import Derived.Shelf.Slices.Empties2
import Derived.Test.YtnhgichiedninaaGreatDoorProg
namespace Go.Proofs.YtnhgichiedninaaGreatDoor
set_option linter.unusedSimpArgs false
set_option linter.unusedVariables false
open Go.RowKit Go.Shelf

/-- The least time at which a seed may be asked, of the first seeds; -1 if there is none. -/
def leastStep (now b : Int) (s : SeedV) : Int := if s.out = false ∧ s.under = false ∧ (b < 0 ∨ max s.after now < b) then max s.after now else b
def leastOf (now : Int) (S : List SeedV) : Int := S.foldl (leastStep now) (-1)
theorem least_next {now : Int} {S : List SeedV} {k : Nat} (h : k < S.length) : leastOf now (S.take (k + 1)) = leastStep now (leastOf now (S.take k)) S[k] := by
  unfold leastOf
  rw [List.take_succ_eq_append_getElem h, List.foldl_append]
  rfl
def CliV.whenE (c : CliV) (now : Int) : Int := if c.atE now ≠ 0 then c.atE now else if c.best.isSome = false ∨ leastOf now c.seeds < 0 ∨ 1000000000 < leastOf now c.seeds then 8 else 0
set_option maxRecDepth 100000 in
set_option maxHeartbeats 8000000 in
theorem cWhen_any (B SB cap MB : Nat) (ps : List Nat) (c : CliV) (G : List (Value × Value)) (now : Int) (w : World) (h : CliAt w B SB cap MB ps c G) (haf : ∀ s ∈ c.seeds, 0 ≤ s.after ∧ s.after ≤ 2000000000) :
    Calls Tryz.prog 47 #[.pointer (some ⟨B, 0, none⟩), .int .i64 now] w fun e w' => (c.whenE now ≠ 0 ∧ e = .returned (.tuple #[.int .i64 0, .int .i64 (c.whenE now)]) ∧ New w w') ∨
      (c.whenE now = 0 ∧ e = .returned (.tuple #[.int .i64 (leastOf now c.seeds), .int .i64 0]) ∧ CliAt w' B SB cap MB ps { c with now := now } G ∧ Mod (CliT B MB ps) w w') := by
  have HC := hid h
  have HAT := hid (cat_any B SB cap MB ps c G now w h)
  have HLO := hid (clongest_any B SB cap MB ps c G w h)
  have hr := h.room; have hfw := h.few; have hnn := h.nums
  unfold maxLen at hr
  obtain ⟨E, hE⟩ : ∃ E, E = c.whenE now := ⟨_, rfl⟩
  rw [← hE]
  unfold CliV.whenE at hE
  have hz : c.atE now = 0 → c.now ≤ now ∧ now ≤ 1000000000 := at_facts
  obtain ⟨A, hA⟩ : ∃ A, A = c.atE now := ⟨_, rfl⟩
  rw [← hA] at HAT hE hz
  clear h hA
  by_cases g1 : A = 0
  rotate_left
  · rw [if_pos g1] at hE
    have hb1 : (A != 0) = true := by rw [bne_iff_ne]; exact g1
    have HE := hid hE; have HG := hid g1
    clear hE g1 hz
    go_enter Tryz.func47, Tryz.ntmps47
    go_wp2_with fail
    refine HAT.out.mono ?_
    rintro e w1 ⟨rfl, rfl⟩
    go_wp2
    go_ret2
    exact .inl ⟨by rw [HE.out]; exact HG.out, by rw [HE.out]; rfl, Mod.refl _ _⟩
  subst g1
  obtain ⟨t0, t1⟩ := hz rfl
  rw [if_neg (by simp)] at hE
  have HE := hid hE
  have HAF := hid haf
  obtain ⟨s, hs⟩ : ∃ s, s = c.best.isSome := ⟨_, rfl⟩
  rw [← hs] at HLO HE
  obtain ⟨fa, hfa⟩ : ∃ fa, fa = c.nFrm := ⟨_, rfl⟩
  obtain ⟨fb, hfb⟩ : ∃ fb, fb = c.nCnt := ⟨_, rfl⟩
  rw [← hfa, ← hfb] at HLO
  clear hE hz haf hs hfa hfb
  go_enter Tryz.func47, Tryz.ntmps47
  go_wp2_with (first | (go_at_call 36; refine HAT.out.mono ?_; rintro e w1 ⟨rfl, rfl⟩) | fail)
  refine HLO.out.mono ?_
  rintro e w1 ⟨rfl, n1⟩
  have N1 : Hid (New w (w1.alloc (.cells #[.int .i64 fa, .int .i64 fb] 34))) := hid (n1.alloc _)
  have c0 := (HC.out.new n1).row.cellv 0 rfl; have cl := (HC.out.new n1).row.lt
  clear n1
  go_wp2
  clear c0 cl
  obtain ⟨w2, h2⟩ : ∃ w2, w2 = w1.alloc (.cells #[.int .i64 fa, .int .i64 fb] 34) := ⟨_, rfl⟩
  rw [← h2] at N1
  rw [← h2]
  clear h2
  go_loopw [29, 9] (fun x y wr => ∃ (k : Nat) (b : Int), x = .int .i64 k ∧ y = .int .i64 b ∧ k ≤ c.seeds.length ∧ b = leastOf now (c.seeds.take k) ∧ (-1 ≤ b ∧ b ≤ 2000000000) ∧ New w wr) (fun x _ _ => c.seeds.length - (intOf x).toNat)
  case atStart => exact ⟨0, -1, rfl, rfl, by omega, rfl, by omega, N1.out⟩
  case round =>
    obtain ⟨k, b, rfl, rfl, hk, hb, hbb, hn⟩ := hrel
    have HB := hid hb; have HN := hid hn
    by_cases hlt : k < c.seeds.length
    · obtain ⟨p, hp, hp2, hp3⟩ := HC.out.seed hlt
      have s0 := hn.cellv hp2
      have sl := Nat.lt_of_lt_of_le HC.out.slt hn.size
      have P3 := New.blk hn hp3
      obtain ⟨q1, q2⟩ := HAF.out c.seeds[k] (List.getElem_mem hlt)
      have hnx := least_next (now := now) hlt
      rw [← hb] at hnx
      obtain ⟨s5, hs5⟩ : ∃ s5, s5 = c.seeds[k] := ⟨_, rfl⟩
      rw [← hs5] at P3 hnx q1 q2
      obtain ⟨o, ho⟩ : ∃ o, o = s5.out := ⟨_, rfl⟩
      obtain ⟨u, hu⟩ : ∃ u, u = s5.under := ⟨_, rfl⟩
      obtain ⟨m, hm⟩ : ∃ m, m = max s5.after now := ⟨_, rfl⟩
      have hnx2 : leastOf now (c.seeds.take (k + 1)) = if o = false ∧ u = false ∧ (b < 0 ∨ m < b) then m else b := by rw [hnx, leastStep, ← ho, ← hu, ← hm]
      have HNX := hid hnx2
      have p2 : wr.cell? ⟨p, 2, none⟩ = some (.bool u) := by rw [hu]; exact P3.cellv 2 rfl
      have p5 : wr.cell? ⟨p, 5, none⟩ = some (.int .i64 s5.after) := P3.cellv 5 rfl
      have p6 : wr.cell? ⟨p, 6, none⟩ = some (.bool o) := by rw [ho]; exact P3.cellv 6 rfl
      have pl := P3.lt
      have hm9 : 0 ≤ m ∧ m ≤ 2000000000 := by omega
      have hmx : max s5.after now = m := hm.symm
      have hmi : (if s5.after < now then now else s5.after) = m := by rw [hm]; split <;> omega
      clear hb hn hp hp2 hp3 P3 hnx hnx2 hs5 ho hu hm
      cases o with
      | true => go_wp2
                exact ⟨⟨k + 1, b, by simp, rfl, by omega, by rw [HNX.out]; first | (rw [if_pos ⟨rfl, rfl, by omega⟩]; done) | (rw [if_neg (by simp <;> omega)]), by omega, HN.out⟩, by simp [intOf]; omega⟩
      | false =>
        cases u with
        | true => go_wp2
                  exact ⟨⟨k + 1, b, by simp, rfl, by omega, by rw [HNX.out]; first | (rw [if_pos ⟨rfl, rfl, by omega⟩]; done) | (rw [if_neg (by simp <;> omega)]), by omega, HN.out⟩, by simp [intOf]; omega⟩
        | false =>
          by_cases hb0 : b < 0
          · go_wp2
            exact ⟨⟨k + 1, m, by simp, rfl, by omega, by rw [HNX.out]; first | (rw [if_pos ⟨rfl, rfl, by omega⟩]; done) | (rw [if_neg (by simp <;> omega)]), by omega, HN.out⟩, by simp [intOf]; omega⟩
          · by_cases hmb : m < b
            · go_wp2
              exact ⟨⟨k + 1, m, by simp, rfl, by omega, by rw [HNX.out]; first | (rw [if_pos ⟨rfl, rfl, by omega⟩]; done) | (rw [if_neg (by simp <;> omega)]), by omega, HN.out⟩, by simp [intOf]; omega⟩
            · go_wp2
              exact ⟨⟨k + 1, b, by simp, rfl, by omega, by rw [HNX.out]; first | (rw [if_pos ⟨rfl, rfl, by omega⟩]; done) | (rw [if_neg (by simp <;> omega)]), by omega, HN.out⟩, by simp [intOf]; omega⟩
    · have hkk : c.seeds.take k = c.seeds := List.take_of_length_le (by omega)
      rw [hkk] at HB
      rw [← HB.out] at HE
      have C5 := hid (HC.out.new hn)
      have c4 := C5.out.row.cellv 4 rfl; have cl := C5.out.row.lt; have cf := C5.out.row.frz 4
      clear hb hn hkk
      by_cases g2 : s = false ∨ b < 0 ∨ 1000000000 < b
      · rw [if_pos g2] at HE
        cases s with
        | false =>
          clear g2
          go_wp2
          go_ret2
          exact .inl ⟨by rw [HE.out]; decide, by rw [HE.out]; rfl, HN.out⟩
        | true =>
          have g3 : b < 0 ∨ 1000000000 < b := by simpa using g2
          clear g2
          rcases g3 with g3 | g3
          all_goals
            go_wp2
            go_ret2
            exact .inl ⟨by rw [HE.out]; decide, by rw [HE.out]; rfl, HN.out⟩
      · rw [if_neg g2] at HE
        obtain rfl : s = true := by cases s; exact absurd (.inl rfl) g2; rfl
        have g3 : ¬ b < 0 := fun q => g2 (.inr (.inl q))
        have g4 : ¬ 1000000000 < b := fun q => g2 (.inr (.inr q))
        clear g2
        go_wp2
        go_ret2
        exact .inr ⟨HE.out, by rw [← HB.out]; rfl, C5.out.time (t := now) ⟨by omega, t1⟩, Mod.set (S := CliT B MB ps) (New.mod HN.out) ⟨B, 4, none⟩ _ (.inl (.inl rfl))⟩
end Go.Proofs.YtnhgichiedninaaGreatDoor

namespace Go.Proofs.YtnhgichiedninaaGreatDoor
set_option linter.unusedSimpArgs false
set_option linter.unusedVariables false
open Go.RowKit

theorem part_bad {s : ByteArray} {k : Nat} (hk : k < s.size) (h : badByte (s.get! k) = true) : partOk s = false := by
  have hk' : k < s.data.toList.length := by simpa using hk
  have hm : s.get! k ∈ s.data.toList := by
    have e : s.get! k = s.data.toList[k] := by
      show s.data[k]! = _
      rw [Array.getElem!_eq_getD, Array.getD_eq_getD_getElem?, Array.getElem?_eq_getElem (by simpa using hk)]
      simp
    rw [e]
    exact List.getElem_mem _
  have : s.data.toList.all (fun c => !badByte c) = false := by
    rw [List.all_eq_false]
    exact ⟨_, hm, by simp [h]⟩
  simp [partOk, this]
theorem part_good {s : ByteArray} {k : Nat} (hk : ¬ k < s.size) (h : ∀ j, j < k → badByte (s.get! j) = false) : partOk s = (decide (1 ≤ s.size) && decide (s.size ≤ 40) && !decide (s = dot) && !decide (s = dots)) := by
  have : s.data.toList.all (fun c => !badByte c) = true := by
    rw [List.all_eq_true]
    intro c hc
    obtain ⟨j, hj, rfl⟩ := List.mem_iff_getElem.1 hc
    have hj' : j < s.size := by simpa using hj
    have := h j (by omega)
    have e : s.get! j = s.data.toList[j] := by
      show s.data[j]! = _
      rw [Array.getElem!_eq_getD, Array.getD_eq_getD_getElem?, Array.getElem?_eq_getElem (by simpa using hj)]
      simp
    rw [← e, this]
    rfl
  simp [partOk, this]
theorem get_at {s : ByteArray} {k : Nat} (hk : k < s.size) : s.get! k = s[k] := by
  show s.data[k]! = _
  rw [Array.getElem!_eq_getD, Array.getD_eq_getD_getElem?, Array.getElem?_eq_getElem (by simpa using hk)]
  rfl
theorem bad_is {s : ByteArray} {k : Nat} (hk : k < s.size) : badByte (s.get! k) = (decide ((s[k].toNat : Int) < 32) || ((s[k].toNat : Int) == 127) || ((s[k].toNat : Int) == 47) || ((s[k].toNat : Int) == 92)) := by
  rw [get_at hk, badByte]
  have e : ∀ n : Nat, ((s[k].toNat : Int) == (n : Int)) = decide (s[k].toNat = n) := fun n => by
    rw [Bool.eq_iff_iff]; simp; omega
  rw [show (127 : Int) = ((127 : Nat) : Int) from rfl, show (47 : Int) = ((47 : Nat) : Int) from rfl, show (92 : Int) = ((92 : Nat) : Int) from rfl, e, e, e]
  have : decide ((s[k].toNat : Int) < 32) = decide (s[k].toNat < 32) := by rw [Bool.eq_iff_iff]; simp; omega
  rw [this]


set_option maxHeartbeats 1000000 in
theorem part_any (s : ByteArray) (w : World) (hs : s.size ≤ maxLen) :
    Calls Tryz.prog 162 #[.string s] w fun e w' => e = .returned (.bool (partOk s)) ∧ w = w' := by
  unfold maxLen at hs
  go_enter Tryz.func162, Tryz.ntmps162
  go_wp2
  go_loopw [7] (fun i wr => ∃ k : Nat, i = .int .i64 k ∧ k ≤ s.size ∧ (∀ j, j < k → badByte (s.get! j) = false) ∧ wr = w) (fun i _ => s.size - (intOf i).toNat)
  case atStart => exact ⟨0, rfl, by omega, by omega, rfl⟩
  case round =>
    obtain ⟨k, rfl, hk, hb, rfl⟩ := hrel
    have HB := hid hb
    clear hb
    by_cases hlt : k < s.size
    · have HE := hid (bad_is hlt)
      cases e1 : decide ((s[k].toNat : Int) < 32) with
      | true =>
        have HP := hid (part_bad hlt (by rw [HE.out, e1]; rfl))
        go_wp2
        go_ret
        exact ⟨ret_bool HP.out.symm, rfl⟩
      | false =>
        cases e2 : ((s[k].toNat : Int) == 127) with
        | true =>
          have HP := hid (part_bad hlt (by rw [HE.out, e1, e2]; rfl))
          go_wp2
          go_ret
          exact ⟨ret_bool HP.out.symm, rfl⟩
        | false =>
          cases e3 : ((s[k].toNat : Int) == 47) with
          | true =>
            have HP := hid (part_bad hlt (by rw [HE.out, e1, e2, e3]; rfl))
            go_wp2
            go_ret
            exact ⟨ret_bool HP.out.symm, rfl⟩
          | false =>
            cases e4 : ((s[k].toNat : Int) == 92) with
            | true =>
              have HP := hid (part_bad hlt (by rw [HE.out, e1, e2, e3, e4]; rfl))
              go_wp2
              go_ret
              exact ⟨ret_bool HP.out.symm, rfl⟩
            | false =>
              have HN := hid (show badByte (s.get! k) = false by rw [HE.out, e1, e2, e3, e4]; rfl)
              go_wp2
              exact ⟨⟨k + 1, by simp, by omega, fun j hj => by rcases Nat.lt_succ_iff_lt_or_eq.1 hj with h | h; exact HB.out j h; subst h; exact HN.out, trivial⟩, by simp [intOf]; omega⟩
    · have HP := hid (part_good hlt HB.out)
      by_cases q1 : (1 : Int) ≤ s.size
      · by_cases q2 : (s.size : Int) ≤ 40
        · have HP2 := hid (show partOk s = (!(s.toList == [46]) && !(s.toList == [46, 46])) by
            rw [HP.out, lit_eq, lit_eq, decide_eq_true (show 1 ≤ s.size by omega), decide_eq_true (show s.size ≤ 40 by omega)]
            rfl)
          cases e5 : s.toList == [46] with
          | true =>
            go_wp2
            go_ret
            exact ⟨ret_bool (by rw [HP2.out, e5]; rfl), rfl⟩
          | false =>
            go_wp2
            go_ret
            exact ⟨ret_bool (by rw [HP2.out, e5]; rfl), rfl⟩
        · go_wp2
          go_ret
          refine ⟨ret_bool ?_, rfl⟩
          rw [HP.out]
          simp; omega
      · go_wp2
        go_ret
        refine ⟨ret_bool ?_, rfl⟩
        rw [HP.out]
        simp; omega
set_option maxHeartbeats 1000000 in
theorem rPart_any (s : ByteArray) (w : World) (hs : s.size ≤ maxLen) :
    Calls Tryz.prog 156 #[.string s] w fun e w' => e = .returned (.bool (partOk s)) ∧ w = w' := by
  unfold maxLen at hs
  go_enter Tryz.func156, Tryz.ntmps156
  go_wp2
  go_loopw [6] (fun i wr => ∃ k : Nat, i = .int .i64 k ∧ k ≤ s.size ∧ (∀ j, j < k → badByte (s.get! j) = false) ∧ wr = w) (fun i _ => s.size - (intOf i).toNat)
  case atStart => exact ⟨0, rfl, by omega, by omega, rfl⟩
  case round =>
    obtain ⟨k, rfl, hk, hb, rfl⟩ := hrel
    have HB := hid hb
    clear hb
    by_cases hlt : k < s.size
    · have HE := hid (bad_is hlt)
      cases e1 : decide ((s[k].toNat : Int) < 32) with
      | true =>
        have HP := hid (part_bad hlt (by rw [HE.out, e1]; rfl))
        go_wp2
        go_ret
        exact ⟨ret_bool HP.out.symm, rfl⟩
      | false =>
        cases e2 : ((s[k].toNat : Int) == 127) with
        | true =>
          have HP := hid (part_bad hlt (by rw [HE.out, e1, e2]; rfl))
          go_wp2
          go_ret
          exact ⟨ret_bool HP.out.symm, rfl⟩
        | false =>
          cases e3 : ((s[k].toNat : Int) == 47) with
          | true =>
            have HP := hid (part_bad hlt (by rw [HE.out, e1, e2, e3]; rfl))
            go_wp2
            go_ret
            exact ⟨ret_bool HP.out.symm, rfl⟩
          | false =>
            cases e4 : ((s[k].toNat : Int) == 92) with
            | true =>
              have HP := hid (part_bad hlt (by rw [HE.out, e1, e2, e3, e4]; rfl))
              go_wp2
              go_ret
              exact ⟨ret_bool HP.out.symm, rfl⟩
            | false =>
              have HN := hid (show badByte (s.get! k) = false by rw [HE.out, e1, e2, e3, e4]; rfl)
              go_wp2
              exact ⟨⟨k + 1, by simp, by omega, fun j hj => by rcases Nat.lt_succ_iff_lt_or_eq.1 hj with h | h; exact HB.out j h; subst h; exact HN.out, trivial⟩, by simp [intOf]; omega⟩
    · have HP := hid (part_good hlt HB.out)
      by_cases q1 : (1 : Int) ≤ s.size
      · by_cases q2 : (s.size : Int) ≤ 40
        · have HP2 := hid (show partOk s = (!(s.toList == [46]) && !(s.toList == [46, 46])) by
            rw [HP.out, lit_eq, lit_eq, decide_eq_true (show 1 ≤ s.size by omega), decide_eq_true (show s.size ≤ 40 by omega)]
            rfl)
          cases e5 : s.toList == [46] with
          | true =>
            go_wp2
            go_ret
            exact ⟨ret_bool (by rw [HP2.out, e5]; rfl), rfl⟩
          | false =>
            go_wp2
            go_ret
            exact ⟨ret_bool (by rw [HP2.out, e5]; rfl), rfl⟩
        · go_wp2
          go_ret
          refine ⟨ret_bool ?_, rfl⟩
          rw [HP.out]
          simp; omega
      · go_wp2
        go_ret
        refine ⟨ret_bool ?_, rfl⟩
        rw [HP.out]
        simp; omega
end Go.Proofs.YtnhgichiedninaaGreatDoor

namespace Go.Proofs
open Go.Shelf
def Tryz.lays156_ren : Go.Shelf.Ren := ⟨fun | 156 => 133 | 165 => 98 | 166 => 99 | 169 => 101 | 240 => 144 | 241 => 145 | 276 => 165 | 277 => 166 | n => n, fun | 31 => 22 | 9 => 9 | 3 => 3 | 4 => 4 | 0 => 0 | 20 => 20 | 72 => 155 | 76 => 159 | 70 => 153 | 37 => 83 | 75 => 158 | 127 => 209 | 164 => 228 | 5 => 5 | 80 => 104 | n => n, fun | n => n⟩
theorem Tryz.lays156 : Go.Proofs.Lays.n156 Tryz.prog Tryz.lays156_ren := {
  mixed := by kernel_rfl
  f156 := Tryz.func133.trans (congrArg some (by kernel_rfl))
  f165 := Tryz.func98.trans (congrArg some (by kernel_rfl))
  f166 := Tryz.func99.trans (congrArg some (by kernel_rfl))
  f169 := Tryz.func101.trans (congrArg some (by kernel_rfl))
  f240 := Tryz.func144.trans (congrArg some (by kernel_rfl))
  f241 := Tryz.func145.trans (congrArg some (by kernel_rfl))
  f276 := Tryz.func165.trans (congrArg some (by kernel_rfl))
  f277 := Tryz.func166.trans (congrArg some (by kernel_rfl))
  t0 := Tryz.underlying0
  a0 := Tryz.isAgg0
  z0 := Tryz.sizeOf0
  v0 := Tryz.zeroValue0
  t3 := Tryz.underlying3
  a3 := Tryz.isAgg3
  z3 := Tryz.sizeOf3
  v3 := Tryz.zeroValue3
  t4 := Tryz.underlying4
  a4 := Tryz.isAgg4
  z4 := Tryz.sizeOf4
  v4 := Tryz.zeroValue4
  t9 := Tryz.underlying9
  a9 := Tryz.isAgg9
  z9 := Tryz.sizeOf9
  v9 := Tryz.zeroValue9
  t20 := Tryz.underlying20
  a20 := Tryz.isAgg20
  z20 := Tryz.sizeOf20
  v20 := Tryz.zeroValue20
  t31 := Tryz.underlying22
  a31 := Tryz.isAgg22
  z31 := Tryz.sizeOf22
  v31 := Tryz.zeroValue22
  t37 := Tryz.underlying83
  a37 := Tryz.isAgg83
  z37 := Tryz.sizeOf83
  v37 := Tryz.zeroValue83
  t70 := Tryz.underlying153
  a70 := Tryz.isAgg153
  z70 := Tryz.sizeOf153
  v70 := Tryz.zeroValue153
  t72 := Tryz.underlying155
  a72 := Tryz.isAgg155
  z72 := Tryz.sizeOf155
  v72 := Tryz.zeroValue155
  t75 := Tryz.underlying158
  a75 := Tryz.isAgg158
  z75 := Tryz.sizeOf158
  v75 := Tryz.zeroValue158
  t76 := Tryz.underlying159
  a76 := Tryz.isAgg159
  z76 := Tryz.sizeOf159
  v76 := Tryz.zeroValue159
  t127 := Tryz.underlying209
  a127 := Tryz.isAgg209
  z127 := Tryz.sizeOf209
  v127 := Tryz.zeroValue209
  t164 := Tryz.underlying228
  a164 := Tryz.isAgg228
  z164 := Tryz.sizeOf228
  v164 := Tryz.zeroValue228 }
theorem Tryz.Builder_Extra_156 : Builder.Extra Tryz.prog Tryz.lays156_ren := {
  sizeBuilder := by kernel_rfl
  liesBuilder := by kernel_rfl
  t5 := Tryz.underlying5
  a5 := Tryz.isAgg5
  z5 := Tryz.sizeOf5
  v5 := Tryz.zeroValue5
  infoByte := by kernel_rfl
  cellsByte := by kernel_rfl
  sizeByte := by kernel_rfl
  neB5 := by decide }
open Go.RowKit in
theorem Tryz.strings_Join_none (a : Option Addr) (c : Nat) (sep : ByteArray) (w : World) :
    Calls Tryz.prog 133 #[.slice a 0 c, .string sep] w fun e w' => e = .returned (.string ⟨#[]⟩) ∧ w' = w := Any.strings_Join_none Tryz.lays156 Tryz.Builder_Extra_156 a c sep w
open Go.RowKit in
theorem Tryz.strings_Join (bk o c : Nat) (xs : List ByteArray) (sep : ByteArray) (w : World) (hcells : ∀ (j : Nat) x, xs[j]? = some x → w.cell? ⟨bk, o + j, none⟩ = some (.string x)) (hbk : bk < w.heap.size) (hN : xs.length ≤ 140737488355328) (hcap : xs.length ≤ c) (hlen : (Lib.join (xs.map (·.data.toList)) sep.data.toList).length ≤ 140737488355328) :
    Calls Tryz.prog 133 #[.slice (some ⟨bk, o, none⟩) xs.length c, .string sep] w fun e w' => e = .returned (.string ⟨(Lib.join (xs.map (·.data.toList)) sep.data.toList).toArray⟩) ∧ Below w.heap.size w w' := Any.strings_Join Tryz.lays156 Tryz.Builder_Extra_156 bk o c xs sep w hcells hbk hN hcap hlen
def Tryz.laysM171_ren : Go.Shelf.Ren := ⟨fun | 171 => 71 | 243 => 103 | 246 => 146 | 283 => 167 | 284 => 168 | 285 => 169 | 286 => 170 | 129 => 117 | 317 => 179 | 318 => 180 | 319 => 181 | 320 => 182 | 337 => 190 | 338 => 191 | n => n, fun | 3 => 3 | 9 => 9 | 2 => 2 | 4 => 4 | 171 => 231 | 0 => 0 | 53 => 175 | 37 => 83 | 5 => 5 | 173 => 233 | 212 => 245 | 51 => 173 | 20 => 20 | 213 => 246 | 46 => 138 | 232 => 259 | 233 => 260 | n => n, fun | 17 => 1 | 18 => 5 | 19 => 6 | n => n⟩
theorem Tryz.laysM171 : Go.Proofs.LaysM.n171 Tryz.prog Tryz.laysM171_ren := {
  mixed := by kernel_rfl
  f129 := Tryz.func117.trans (congrArg some (by kernel_rfl))
  f171 := Tryz.func71.trans (congrArg some (by kernel_rfl))
  f243 := Tryz.func103.trans (congrArg some (by kernel_rfl))
  f246 := Tryz.func146.trans (congrArg some (by kernel_rfl))
  f283 := Tryz.func167.trans (congrArg some (by kernel_rfl))
  f284 := Tryz.func168.trans (congrArg some (by kernel_rfl))
  f285 := Tryz.func169.trans (congrArg some (by kernel_rfl))
  f286 := Tryz.func170.trans (congrArg some (by kernel_rfl))
  f317 := Tryz.func179.trans (congrArg some (by kernel_rfl))
  f318 := Tryz.func180.trans (congrArg some (by kernel_rfl))
  f319 := Tryz.func181.trans (congrArg some (by kernel_rfl))
  f320 := Tryz.func182.trans (congrArg some (by kernel_rfl))
  f337 := Tryz.func190.trans (congrArg some (by kernel_rfl))
  f338 := Tryz.func191.trans (congrArg some (by kernel_rfl))
  t0 := Tryz.underlying0
  a0 := Tryz.isAgg0
  z0 := Tryz.sizeOf0
  v0 := Tryz.zeroValue0
  t2 := Tryz.underlying2
  a2 := Tryz.isAgg2
  z2 := Tryz.sizeOf2
  v2 := Tryz.zeroValue2
  t3 := Tryz.underlying3
  a3 := Tryz.isAgg3
  z3 := Tryz.sizeOf3
  v3 := Tryz.zeroValue3
  t4 := Tryz.underlying4
  a4 := Tryz.isAgg4
  z4 := Tryz.sizeOf4
  v4 := Tryz.zeroValue4
  t5 := Tryz.underlying5
  a5 := Tryz.isAgg5
  z5 := Tryz.sizeOf5
  v5 := Tryz.zeroValue5
  t9 := Tryz.underlying9
  a9 := Tryz.isAgg9
  z9 := Tryz.sizeOf9
  v9 := Tryz.zeroValue9
  t20 := Tryz.underlying20
  a20 := Tryz.isAgg20
  z20 := Tryz.sizeOf20
  v20 := Tryz.zeroValue20
  t37 := Tryz.underlying83
  a37 := Tryz.isAgg83
  z37 := Tryz.sizeOf83
  v37 := Tryz.zeroValue83
  t46 := Tryz.underlying138
  a46 := Tryz.isAgg138
  z46 := Tryz.sizeOf138
  v46 := Tryz.zeroValue138
  t51 := Tryz.underlying173
  a51 := Tryz.isAgg173
  z51 := Tryz.sizeOf173
  v51 := Tryz.zeroValue173
  t53 := Tryz.underlying175
  a53 := Tryz.isAgg175
  z53 := Tryz.sizeOf175
  v53 := Tryz.zeroValue175
  t171 := Tryz.underlying231
  a171 := Tryz.isAgg231
  z171 := Tryz.sizeOf231
  v171 := Tryz.zeroValue231
  t173 := Tryz.underlying233
  a173 := Tryz.isAgg233
  z173 := Tryz.sizeOf233
  v173 := Tryz.zeroValue233
  t212 := Tryz.underlying245
  a212 := Tryz.isAgg245
  z212 := Tryz.sizeOf245
  v212 := Tryz.zeroValue245
  t213 := Tryz.underlying246
  a213 := Tryz.isAgg246
  z213 := Tryz.sizeOf246
  t232 := Tryz.underlying259
  a232 := Tryz.isAgg259
  z232 := Tryz.sizeOf259
  v232 := Tryz.zeroValue259
  t233 := Tryz.underlying260
  a233 := Tryz.isAgg260
  z233 := Tryz.sizeOf260
  v233 := Tryz.zeroValue260
  g17 := by kernel_rfl
  g18 := by kernel_rfl
  g19 := by kernel_rfl
  i0 := by kernel_rfl
  i2 := by kernel_rfl
  i3 := by kernel_rfl
  i4 := by kernel_rfl
  i5 := by kernel_rfl
  i9 := by kernel_rfl
  i20 := by kernel_rfl
  i37 := by kernel_rfl
  i46 := by kernel_rfl
  i51 := by kernel_rfl
  i53 := by kernel_rfl
  i171 := by kernel_rfl
  i173 := by kernel_rfl
  i212 := by kernel_rfl
  i232 := by kernel_rfl
  i233 := by kernel_rfl
  m17 := by kernel_rfl
  m18 := by kernel_rfl
  m19 := by kernel_rfl }
open Go.RowKit Go.Sort Go.Lib in
theorem Tryz.strconv_Itoa (n : Int) (h0 : -9223372036854775808 ≤ n) (h1 : n ≤ 9223372036854775807) (w : World) (htab : Lib.TabIs Tryz.prog w "internal/strconv.uint64pow10" .u64 Lib.pow10Tab) :
    Calls Tryz.prog 71 #[.int .i64 n] w fun e w' => e = .returned (.string ⟨(Lib.itoa n).toArray⟩) ∧ ∃ k os, w' = grow (w.drewN k) os := Any.strconv_Itoa Tryz.laysM171 n h0 h1 w htab
end Go.Proofs
