/-
  Several texts in one, in their build order. The walk of When (package web). Conditions: the client lies as told. The walks of within (the reference) and slices.Equal at texts. Condition: both slices hold texts. The walk of Decimal (the reference): the decimal text of a number. Condition: an int.
-/
import Derived.Test.YtnhgichiedninaaGreatDoorM20
import Derived.Test.YtnhgichiedninaaGreatDoorM2
import Derived.Laws.BytesArg
namespace Go.Proofs.YtnhgichiedninaaGreatDoor
set_option linter.unusedSimpArgs false
set_option linter.unusedVariables false
open Go.RowKit Go.Shelf

/-- The least time at which a seed may be asked, of the first seeds; -1 if there is none. -/
def leastStep (now b : Int) (s : SeedV) : Int := if s.out = false ∧ s.under = false ∧ (b < 0 ∨ max s.after now < b) then max s.after now else b
def leastOf (now : Int) (S : List SeedV) : Int := S.foldl (leastStep now) (-1)
theorem least_next {now : Int} {S : List SeedV} {k : Nat} (h : k < S.length) : leastOf now (S.take (k + 1)) = leastStep now (leastOf now (S.take k)) S[k] := by
  unfold leastOf
  rw [List.take_succ_eq_append_getElem h, List.foldl_append]
  rfl
def CliV.whenE (c : CliV) (now : Int) : Int := if c.atE now ≠ 0 then c.atE now else if c.best.isSome = false ∨ leastOf now c.seeds < 0 ∨ 1000000000 < leastOf now c.seeds then 8 else 0
set_option maxRecDepth 100000 in
set_option maxHeartbeats 8000000 in
theorem cWhen_any (B SB cap MB : Nat) (ps : List Nat) (c : CliV) (G : List (Value × Value)) (now : Int) (w : World) (h : CliAt w B SB cap MB ps c G) (haf : ∀ s ∈ c.seeds, 0 ≤ s.after ∧ s.after ≤ 2000000000) :
    Calls Tryz.prog 47 #[.pointer (some ⟨B, 0, none⟩), .int .i64 now] w fun e w' => (c.whenE now ≠ 0 ∧ e = .returned (.tuple #[.int .i64 0, .int .i64 (c.whenE now)]) ∧ New w w') ∨
      (c.whenE now = 0 ∧ e = .returned (.tuple #[.int .i64 (leastOf now c.seeds), .int .i64 0]) ∧ CliAt w' B SB cap MB ps { c with now := now } G ∧ Mod (CliT B MB ps) w w') := by
  have HC := hid h
  have HAT := hid (cat_any B SB cap MB ps c G now w h)
  have HLO := hid (clongest_any B SB cap MB ps c G w h)
  have hr := h.room; have hfw := h.few; have hnn := h.nums
  unfold maxLen at hr
  obtain ⟨E, hE⟩ : ∃ E, E = c.whenE now := ⟨_, rfl⟩
  rw [← hE]
  unfold CliV.whenE at hE
  have hz : c.atE now = 0 → c.now ≤ now ∧ now ≤ 1000000000 := at_facts
  obtain ⟨A, hA⟩ : ∃ A, A = c.atE now := ⟨_, rfl⟩
  rw [← hA] at HAT hE hz
  clear h hA
  by_cases g1 : A = 0
  rotate_left
  · rw [if_pos g1] at hE
    have hb1 : (A != 0) = true := by rw [bne_iff_ne]; exact g1
    have HE := hid hE; have HG := hid g1
    clear hE g1 hz
    go_enter Tryz.func47, Tryz.ntmps47
    go_wp2_with fail
    refine HAT.out.mono ?_
    rintro e w1 ⟨rfl, rfl⟩
    go_wp2
    go_ret2
    exact .inl ⟨by rw [HE.out]; exact HG.out, by rw [HE.out]; rfl, Mod.refl _ _⟩
  subst g1
  obtain ⟨t0, t1⟩ := hz rfl
  rw [if_neg (by simp)] at hE
  have HE := hid hE
  have HAF := hid haf
  obtain ⟨s, hs⟩ : ∃ s, s = c.best.isSome := ⟨_, rfl⟩
  rw [← hs] at HLO HE
  obtain ⟨fa, hfa⟩ : ∃ fa, fa = c.nFrm := ⟨_, rfl⟩
  obtain ⟨fb, hfb⟩ : ∃ fb, fb = c.nCnt := ⟨_, rfl⟩
  rw [← hfa, ← hfb] at HLO
  clear hE hz haf hs hfa hfb
  go_enter Tryz.func47, Tryz.ntmps47
  go_wp2_with (first | (go_at_call 36; refine HAT.out.mono ?_; rintro e w1 ⟨rfl, rfl⟩) | fail)
  refine HLO.out.mono ?_
  rintro e w1 ⟨rfl, n1⟩
  have N1 : Hid (New w (w1.alloc (.cells #[.int .i64 fa, .int .i64 fb] 34))) := hid (n1.alloc _)
  have c0 := (HC.out.new n1).row.cellv 0 rfl; have cl := (HC.out.new n1).row.lt
  clear n1
  go_wp2
  clear c0 cl
  obtain ⟨w2, h2⟩ : ∃ w2, w2 = w1.alloc (.cells #[.int .i64 fa, .int .i64 fb] 34) := ⟨_, rfl⟩
  rw [← h2] at N1
  rw [← h2]
  clear h2
  go_loopw [29, 9] (fun x y wr => ∃ (k : Nat) (b : Int), x = .int .i64 k ∧ y = .int .i64 b ∧ k ≤ c.seeds.length ∧ b = leastOf now (c.seeds.take k) ∧ (-1 ≤ b ∧ b ≤ 2000000000) ∧ New w wr) (fun x _ _ => c.seeds.length - (intOf x).toNat)
  case atStart => exact ⟨0, -1, rfl, rfl, by omega, rfl, by omega, N1.out⟩
  case round =>
    obtain ⟨k, b, rfl, rfl, hk, hb, hbb, hn⟩ := hrel
    have HB := hid hb; have HN := hid hn
    by_cases hlt : k < c.seeds.length
    · obtain ⟨p, hp, hp2, hp3⟩ := HC.out.seed hlt
      have s0 := hn.cellv hp2
      have sl := Nat.lt_of_lt_of_le HC.out.slt hn.size
      have P3 := New.blk hn hp3
      obtain ⟨q1, q2⟩ := HAF.out c.seeds[k] (List.getElem_mem hlt)
      have hnx := least_next (now := now) hlt
      rw [← hb] at hnx
      obtain ⟨s5, hs5⟩ : ∃ s5, s5 = c.seeds[k] := ⟨_, rfl⟩
      rw [← hs5] at P3 hnx q1 q2
      obtain ⟨o, ho⟩ : ∃ o, o = s5.out := ⟨_, rfl⟩
      obtain ⟨u, hu⟩ : ∃ u, u = s5.under := ⟨_, rfl⟩
      obtain ⟨m, hm⟩ : ∃ m, m = max s5.after now := ⟨_, rfl⟩
      have hnx2 : leastOf now (c.seeds.take (k + 1)) = if o = false ∧ u = false ∧ (b < 0 ∨ m < b) then m else b := by rw [hnx, leastStep, ← ho, ← hu, ← hm]
      have HNX := hid hnx2
      have p2 : wr.cell? ⟨p, 2, none⟩ = some (.bool u) := by rw [hu]; exact P3.cellv 2 rfl
      have p5 : wr.cell? ⟨p, 5, none⟩ = some (.int .i64 s5.after) := P3.cellv 5 rfl
      have p6 : wr.cell? ⟨p, 6, none⟩ = some (.bool o) := by rw [ho]; exact P3.cellv 6 rfl
      have pl := P3.lt
      have hm9 : 0 ≤ m ∧ m ≤ 2000000000 := by omega
      have hmx : max s5.after now = m := hm.symm
      have hmi : (if s5.after < now then now else s5.after) = m := by rw [hm]; split <;> omega
      clear hb hn hp hp2 hp3 P3 hnx hnx2 hs5 ho hu hm
      cases o with
      | true => go_wp2
                exact ⟨⟨k + 1, b, by simp, rfl, by omega, by rw [HNX.out]; first | (rw [if_pos ⟨rfl, rfl, by omega⟩]; done) | (rw [if_neg (by simp <;> omega)]), by omega, HN.out⟩, by simp [intOf]; omega⟩
      | false =>
        cases u with
        | true => go_wp2
                  exact ⟨⟨k + 1, b, by simp, rfl, by omega, by rw [HNX.out]; first | (rw [if_pos ⟨rfl, rfl, by omega⟩]; done) | (rw [if_neg (by simp <;> omega)]), by omega, HN.out⟩, by simp [intOf]; omega⟩
        | false =>
          by_cases hb0 : b < 0
          · go_wp2
            exact ⟨⟨k + 1, m, by simp, rfl, by omega, by rw [HNX.out]; first | (rw [if_pos ⟨rfl, rfl, by omega⟩]; done) | (rw [if_neg (by simp <;> omega)]), by omega, HN.out⟩, by simp [intOf]; omega⟩
          · by_cases hmb : m < b
            · go_wp2
              exact ⟨⟨k + 1, m, by simp, rfl, by omega, by rw [HNX.out]; first | (rw [if_pos ⟨rfl, rfl, by omega⟩]; done) | (rw [if_neg (by simp <;> omega)]), by omega, HN.out⟩, by simp [intOf]; omega⟩
            · go_wp2
              exact ⟨⟨k + 1, b, by simp, rfl, by omega, by rw [HNX.out]; first | (rw [if_pos ⟨rfl, rfl, by omega⟩]; done) | (rw [if_neg (by simp <;> omega)]), by omega, HN.out⟩, by simp [intOf]; omega⟩
    · have hkk : c.seeds.take k = c.seeds := List.take_of_length_le (by omega)
      rw [hkk] at HB
      rw [← HB.out] at HE
      have C5 := hid (HC.out.new hn)
      have c4 := C5.out.row.cellv 4 rfl; have cl := C5.out.row.lt; have cf := C5.out.row.frz 4
      clear hb hn hkk
      by_cases g2 : s = false ∨ b < 0 ∨ 1000000000 < b
      · rw [if_pos g2] at HE
        cases s with
        | false =>
          clear g2
          go_wp2
          go_ret2
          exact .inl ⟨by rw [HE.out]; decide, by rw [HE.out]; rfl, HN.out⟩
        | true =>
          have g3 : b < 0 ∨ 1000000000 < b := by simpa using g2
          clear g2
          rcases g3 with g3 | g3
          all_goals
            go_wp2
            go_ret2
            exact .inl ⟨by rw [HE.out]; decide, by rw [HE.out]; rfl, HN.out⟩
      · rw [if_neg g2] at HE
        obtain rfl : s = true := by cases s; exact absurd (.inl rfl) g2; rfl
        have g3 : ¬ b < 0 := fun q => g2 (.inr (.inl q))
        have g4 : ¬ 1000000000 < b := fun q => g2 (.inr (.inr q))
        clear g2
        go_wp2
        go_ret2
        exact .inr ⟨HE.out, by rw [← HB.out]; rfl, C5.out.time (t := now) ⟨by omega, t1⟩, Mod.set (S := CliT B MB ps) (New.mod HN.out) ⟨B, 4, none⟩ _ (.inl (.inl rfl))⟩
end Go.Proofs.YtnhgichiedninaaGreatDoor

namespace Go.Proofs.YtnhgichiedninaaGreatDoor
set_option linter.unusedSimpArgs false
set_option linter.unusedVariables false
open Go.RowKit

theorem prefix_upto {p q : List ByteArray} (hl : p.length ≤ q.length) (h : ∀ (j : Nat) (h1 : j < p.length) (h2 : j < q.length), q[j] = p[j]) : p <+: q := by
  rw [List.prefix_iff_eq_take]
  apply List.ext_getElem
  · simp; omega
  · intro j h1 h2
    simp at h2
    simp [h j h1 (by omega)]
theorem prefix_not {p q : List ByteArray} {j : Nat} (h1 : j < p.length) (h2 : j < q.length) (h : q[j] ≠ p[j]) : ¬ p <+: q := by
  intro hp
  exact h (List.IsPrefix.getElem hp h1).symm

set_option maxHeartbeats 1000000 in
theorem within_any (a b : Option Addr) (c d : Nat) (p q : List ByteArray) (w : World) (hp : StrsAt w a c p) (hq : StrsAt w b d q) :
    Calls Tryz.prog 135 #[.slice a p.length c, .slice b q.length d] w fun e w' => e = .returned (.bool (decide (p <+: q))) ∧ w = w' := by
  have hm1 := hp.room; have hm2 := hp.cap; have hm3 := hq.room; have hm4 := hq.cap
  unfold maxLen at hm2 hm4
  by_cases hl : p.length ≤ q.length
  · by_cases hz : 0 < p.length
    · obtain ⟨b1, o1, rfl, hb1, hc1⟩ := hp.get hz
      obtain ⟨b2, o2, rfl, hb2, hc2⟩ := hq.get (by omega)
      have HP := hid (And.intro hp hq)
      clear hp hq
      go_enter Tryz.func135, Tryz.ntmps135
      go_wp2
      go_loopw [14] (fun i wr => ∃ k : Nat, i = .int .i64 k ∧ k ≤ p.length ∧ (∀ (j : Nat) (h1 : j < p.length) (h2 : j < q.length), j < k → q[j] = p[j]) ∧ wr = w) (fun i _ => p.length - (intOf i).toNat)
      case atStart => exact ⟨0, rfl, by omega, by intros; omega, rfl⟩
      case round =>
        obtain ⟨k, rfl, hk, hb, rfl⟩ := hrel
        have HB := hid hb
        clear hb
        by_cases hlt : k < p.length
        · have g1 := hc1 k hlt
          have g2 := hc2 k (by omega)
          have HC1 := hid hc1; have HC2 := hid hc2
          clear hc1 hc2
          by_cases he : q[k] = p[k]
          · have hb2 : (q[k].toList == p[k].toList) = true := by rw [two_eq, decide_eq_true he]
            have HE := hid he
            clear he
            go_wp2
            exact ⟨⟨k + 1, by simp, by omega, fun j h1 h2 hj => by rcases Nat.lt_succ_iff_lt_or_eq.1 hj with h | h; exact HB.out j h1 h2 h; subst h; exact HE.out, trivial⟩, by simp [intOf]; omega⟩
          · have hb2 : (q[k].toList == p[k].toList) = false := by rw [two_eq, decide_eq_false he]
            have HE := hid (prefix_not hlt (by omega) he)
            clear he
            go_wp2
            go_ret
            exact ⟨ret_bool (decide_eq_false HE.out).symm, rfl⟩
        · have HE := hid (prefix_upto hl (fun j h1 h2 => HB.out j h1 h2 (by omega)))
          clear hc1 hc2
          go_wp2
          go_ret
          exact ⟨ret_bool (decide_eq_true HE.out).symm, rfl⟩
    · obtain rfl : p = [] := List.eq_nil_of_length_eq_zero (by omega)
      clear hp hq
      go_enter Tryz.func135, Tryz.ntmps135
      go_wp2
      refine wp_loop_rounds 1 ?_
      rw [rounds_succ]
      go_wp2
      go_ret
      exact ⟨ret_bool (decide_eq_true (List.nil_prefix)).symm, rfl⟩
  · have HE := hid (show ¬ p <+: q from fun h => hl h.length_le)
    clear hp hq
    go_enter Tryz.func135, Tryz.ntmps135
    go_wp2
    go_ret
    exact ⟨ret_bool (decide_eq_false HE.out).symm, rfl⟩

theorem eq_upto {p q : List ByteArray} (hl : p.length = q.length) (h : ∀ (j : Nat) (h1 : j < p.length) (h2 : j < q.length), p[j] = q[j]) : p = q :=
  List.ext_getElem hl h
theorem eq_not {p q : List ByteArray} {j : Nat} (h1 : j < p.length) (h2 : j < q.length) (h : p[j] ≠ q[j]) : p ≠ q := by
  rintro rfl
  exact h rfl
set_option maxHeartbeats 1000000 in
theorem equal_any (a b : Option Addr) (c d : Nat) (p q : List ByteArray) (w : World) (hp : StrsAt w a c p) (hq : StrsAt w b d q) :
    Calls Tryz.prog 163 #[.slice a p.length c, .slice b q.length d] w fun e w' => e = .returned (.bool (decide (p = q))) ∧ New w w' := by
  have hm1 := hp.room; have hm2 := hp.cap; have hm3 := hq.room; have hm4 := hq.cap
  unfold maxLen at hm2 hm4
  by_cases hl : p.length = q.length
  · by_cases hz : 0 < p.length
    · obtain ⟨b1, o1, rfl, hb1, hc1⟩ := hp.get hz
      obtain ⟨b2, o2, rfl, hb2, hc2⟩ := hq.get (by omega)
      have HP := hid (And.intro hp hq)
      have HL := hid hl
      rw [← hl]
      clear hp hq hl
      go_enter Tryz.func163, Tryz.ntmps163
      go_wp2
      go_loopw [13] (fun i wr => ∃ k : Nat, i = .int .i64 k ∧ k ≤ p.length ∧ (∀ (j : Nat) (h1 : j < p.length) (h2 : j < q.length), j < k → p[j] = q[j]) ∧ ∃ n, wr = w.drewN n) (fun i _ => p.length - (intOf i).toNat)
      case atStart => exact ⟨0, rfl, by omega, by intros; omega, 0, rfl⟩
      case round =>
        obtain ⟨k, rfl, hk, hb, n, rfl⟩ := hrel
        have HB := hid hb
        clear hb
        by_cases hlt : k < p.length
        · have hlt2 : k < q.length := by have := HL.out; omega
          have g1 := hc1 k hlt
          have g2 := hc2 k hlt2
          have HC1 := hid hc1; have HC2 := hid hc2
          clear hc1 hc2
          by_cases he : p[k] = q[k]
          · have hb2 : (p[k].toList == q[k].toList) = true := by rw [two_eq, decide_eq_true he]
            have HE := hid he
            clear he
            go_wp2_with fail
            go_region
            go_wp2
            exact ⟨⟨k + 1, by simp, by omega, fun j h1 h2 hj => by rcases Nat.lt_succ_iff_lt_or_eq.1 hj with h | h; exact HB.out j h1 h2 h; subst h; exact HE.out, n + 1, rfl⟩, by simp [intOf]; omega⟩
          · have hb2 : (p[k].toList == q[k].toList) = false := by rw [two_eq, decide_eq_false he]
            have HE := hid (eq_not hlt hlt2 he)
            clear he
            go_wp2_with fail
            go_region
            go_wp2
            go_ret
            exact ⟨ret_bool (decide_eq_false HE.out).symm, (Mod.refl _ _).drewN n |>.drew⟩
        · have HE := hid (eq_upto HL.out (fun j h1 h2 => HB.out j h1 h2 (by omega)))
          clear hc1 hc2
          go_wp2
          go_ret
          exact ⟨ret_bool (decide_eq_true HE.out).symm, (Mod.refl _ _).drewN n⟩
    · obtain rfl : p = [] := List.eq_nil_of_length_eq_zero (by omega)
      obtain rfl : q = [] := List.eq_nil_of_length_eq_zero (by simpa using hl.symm)
      clear hp hq
      go_enter Tryz.func163, Tryz.ntmps163
      go_wp2
      refine wp_loop_rounds 1 ?_
      rw [rounds_succ]
      go_wp2
      go_ret
      exact ⟨ret_bool (by simp), Mod.refl _ _⟩
  · have HE := hid (show p ≠ q from fun h => hl (by rw [h]))
    clear hp hq
    go_enter Tryz.func163, Tryz.ntmps163
    go_wp2
    go_ret
    exact ⟨ret_bool (decide_eq_false HE.out).symm, Mod.refl _ _⟩
end Go.Proofs.YtnhgichiedninaaGreatDoor

namespace Go.Proofs.YtnhgichiedninaaGreatDoor
set_option linter.unusedSimpArgs false
set_option linter.unusedVariables false
open Go.RowKit

theorem itoa_one {m : Nat} (h : m < 10) : itoaB (m : Int) = ⟨#[UInt8.ofNat (48 + m)]⟩ := by
  unfold itoaB Lib.itoa
  rw [if_neg (by omega), Lib.decDigits, dif_pos (by simpa using h)]
  simp
theorem itoa_more {m : Nat} (h : ¬ m < 10) : itoaB (m : Int) = itoaB ((m / 10 : Nat) : Int) ++ ⟨#[UInt8.ofNat (48 + m % 10)]⟩ := by
  apply bytes_ext
  unfold itoaB Lib.itoa
  rw [if_neg (by omega), Lib.decDigits, dif_neg (by simpa using h), if_neg (by omega)]
  have : ((m / 10 : Nat) : Int).toNat = m / 10 := Int.toNat_natCast _
  rw [this]
  simp

theorem itoa_size {n : Int} (h0 : -9223372036854775808 ≤ n) (h1 : n ≤ 9223372036854775807) : (itoaB n).size ≤ 21 := by
  have := Lib.itoa_length_le n h0 h1
  show (Lib.itoa n).toArray.size ≤ 21
  simpa using this
theorem ret_str {a b : ByteArray} (h : a = b) : Ending.returned (.string a) = .returned (.string b) := by rw [h]
theorem one_byte (w : World) (v : Int) : (convert 83 9 (.slice (some ⟨w.heap.size, 0, none⟩) 1 1)).run Tryz.prog (w.alloc (.cells #[.int .u8 v] 5)) = .ok (.string ⟨#[UInt8.ofNat v.toNat]⟩) (w.alloc (.cells #[.int .u8 v] 5)) := by
  have := run_convert_bytes_arg (P := Tryz.prog) (w.alloc (.cells #[.int .u8 v] 5)) 83 5 Tryz.underlying83 Tryz.underlying5 w.heap.size 0 1 1 [v] rfl (fun i hi => by
    obtain rfl : i = 0 := by omega
    exact (Blk.new w #[.int .u8 v] 5).cellv 0 rfl) 9 Tryz.underlying9
  rw [this]
  rfl

set_option maxRecDepth 100000 in
set_option maxHeartbeats 1000000 in
theorem decimal_nat (m : Nat) : (m : Int) ≤ 9223372036854775807 → ∀ w : World, Calls Tryz.prog 155 #[.int .i64 m] w fun e w' => e = .returned (.string (itoaB m)) ∧ New w w' := by
  induction m using Nat.strongRecOn with
  | ind m ih =>
    intro hm w
    have hcv := one_byte w (48 + (m : Int) % 10)
    have h48 : (48 + (m : Int) % 10).toNat = 48 + m % 10 := by omega
    by_cases h : m < 10
    · have HI := hid (itoa_one h)
      have hmm : m % 10 = m := by omega
      have HM := hid (And.intro h48 hmm)
      clear ih h48 hmm
      go_enter Tryz.func155, Tryz.ntmps155
      go_wp2
      go_ret
      exact ⟨ret_str (by rw [HI.out, HM.out.2]), (Mod.refl _ _).alloc _⟩
    · have e10 : ((m / 10 : Nat) : Int) = (m : Int) / 10 := by omega
      have HI := hid (itoa_more h)
      have HM := hid h48
      have IH := hid (ih (m / 10) (by omega) (by omega))
      rw [e10] at HI IH
      have hs1 := itoa_size (n := (m : Int) / 10) (by omega) (by omega)
      have hs2 : (⟨#[48 + UInt8.ofNat (m % 10)]⟩ : ByteArray).size = 1 := rfl
      clear ih h48 e10
      go_enter Tryz.func155, Tryz.ntmps155
      go_wp2_with (go_at_call 155; refine (IH.out _).mono ?_; rintro e w1 ⟨rfl, h1⟩; have H1 := hid h1; clear h1)
      go_ret
      exact ⟨ret_str (by rw [HI.out]; simp), ((Mod.refl _ _).alloc _).trans H1.out⟩

theorem itoa_small {m : Nat} (h0 : 0 < m) (h : m < 10) : itoaB (-(m : Int)) = ⟨#[45]⟩ ++ itoaB m := by
  apply bytes_ext
  rw [show (-(m : Int)) = -((m : Nat) : Int) from rfl]
  simp [itoaB, Lib.itoa_neg m (by omega), Lib.itoa_nonneg m]
theorem itoa_great {m : Nat} (h : ¬ m < 10) : itoaB (-(m : Int)) = itoaB (-((m / 10 : Nat) : Int)) ++ itoaB ((m % 10 : Nat) : Int) := by
  apply bytes_ext
  unfold itoaB
  rw [Lib.itoa_neg m (by omega), Lib.itoa_neg (m / 10) (by omega), Lib.itoa_nonneg, Lib.decDigits, dif_neg (by simpa using h), Lib.decDigits_one (show m % 10 < 10 by omega)]
  simp

set_option maxRecDepth 100000 in
set_option maxHeartbeats 1000000 in
theorem decimal_neg (m : Nat) : 0 < m → (m : Int) ≤ 9223372036854775808 → ∀ w : World, Calls Tryz.prog 155 #[.int .i64 (-(m : Int))] w fun e w' => e = .returned (.string (itoaB (-(m : Int)))) ∧ New w w' := by
  induction m using Nat.strongRecOn with
  | ind m ih =>
    intro h0 hm w
    have hq : (-(m : Int)).tdiv 10 = -((m / 10 : Nat) : Int) := by
      rw [Int.neg_tdiv, Int.tdiv_eq_ediv_of_nonneg (by omega)]; simp
    by_cases h : m < 10
    · have HI := hid (itoa_small h0 h)
      have hz : (m : Int) / 10 = 0 := by omega
      have IH := hid (decimal_nat m (by omega))
      have hs1 := itoa_size (n := (m : Int)) (by omega) (by omega)
      clear ih hq
      go_enter Tryz.func155, Tryz.ntmps155
      go_wp2_with (go_at_call 155; refine (IH.out _).mono ?_; rintro e w1 ⟨rfl, h1⟩; have H1 := hid h1; clear h1)
      go_ret
      exact ⟨ret_str HI.out.symm, H1.out⟩
    · have e10 : ((m / 10 : Nat) : Int) = (m : Int) / 10 := by omega
      have e11 : ((m % 10 : Nat) : Int) = (m : Int) % 10 := by omega
      have HI := hid (itoa_great h)
      have hnz : (-((m : Int) / 10) == 0) = false := by simp; omega
      have hb : -922337203685477581 ≤ -((m : Int) / 10) ∧ -((m : Int) / 10) < 0 := by omega
      have IH := hid (ih (m / 10) (by omega) (by omega) (by omega))
      have IH2 := hid (decimal_nat (m % 10) (by omega))
      rw [e10] at IH HI
      rw [e11] at IH2 HI
      have hs1 := itoa_size (n := -((m : Int) / 10)) (by omega) (by omega)
      have hs2 := itoa_size (n := (m : Int) % 10) (by omega) (by omega)
      have tok : True := trivial
      clear ih hq e10 e11
      go_enter Tryz.func155, Tryz.ntmps155
      go_wp2_with (first | (go_at_call 155; have tk := tok; clear tok; refine (IH.out _).mono ?_; rintro e w1 ⟨rfl, h1⟩; have H1 := hid h1; clear h1) | (go_at_call 155; refine (IH2.out _).mono ?_; rintro e w2 ⟨rfl, h2⟩; have H2 := hid h2; clear h2))
      go_ret
      exact ⟨ret_str HI.out.symm, H1.out.trans H2.out⟩
/-- Decimal writes a number as the program does. -/
theorem decimal_any (n : Int) (h0 : -9223372036854775808 ≤ n) (h1 : n ≤ 9223372036854775807) (w : World) : Calls Tryz.prog 155 #[.int .i64 n] w fun e w' => e = .returned (.string (itoaB n)) ∧ New w w' := by
  by_cases h : 0 ≤ n
  · obtain ⟨m, rfl⟩ := Int.eq_ofNat_of_zero_le h
    exact decimal_nat m h1 w
  · obtain ⟨m, rfl⟩ : ∃ m : Nat, n = -(m : Int) := ⟨n.natAbs, by omega⟩
    exact decimal_neg m (by omega) (by omega) w
end Go.Proofs.YtnhgichiedninaaGreatDoor
