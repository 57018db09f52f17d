/-
  Several texts in one, in their build order. How many line ends a text has: counted from place to place, and by its lines. Plain Lean, no program. No condition. The walks of SameTexts, same, awake: two equal lists, two equal messages; the document's example. Conditions: the lists lie as told; the library's table is laid. What both Parses answer to any text, in one word. Condition: the library's variables are as laid. The walks of a crier's Cookie and turn (package local); the errors of Hear told. Conditions: the crier lies as told.
-/
import Derived.Test.YtnflhjagmngimaaGreatDoorM6
import Derived.Test.YtnflhjagmngimaaGreatDoorM14
import Derived.Deep.RegionHeld3
import Derived.Test.YtnflhjagmngimaaGreatDoorM26
import Derived.Test.YtnflhjagmngimaaGreatDoorM9
import Derived.Test.YtnflhjagmngimaaGreatDoorM19
namespace Go.Proofs.YtnflhjagmngimaaGreatDoor
set_option linter.unusedSimpArgs false
set_option linter.unusedVariables false

/-- How many places hold 13 and then 10. -/
def pairs : List UInt8 → Nat
  | [] => 0
  | [_] => 0
  | a :: b :: r => (if a = 13 ∧ b = 10 then 1 else 0) + pairs (b :: r)
end Go.Proofs.YtnflhjagmngimaaGreatDoor

namespace Go.Proofs.YtnflhjagmngimaaGreatDoor
set_option linter.unusedSimpArgs false
set_option linter.unusedVariables false
open Go.RowKit

set_option maxRecDepth 100000 in
set_option maxHeartbeats 4000000 in
theorem sameTexts_eq (a1 a2 : Option Addr) (c1 c2 : Nat) (l : List ByteArray) (w : World) (h1 : StrsAt w a1 c1 l) (h2 : StrsAt w a2 c2 l) : Calls Tryz.prog 15 #[.slice a1 l.length c1, .slice a2 l.length c2] w fun e w' => e = .returned (.bool true) ∧ New w w' := by
  have hm1 := h1.room; have hm2 := h1.cap; have hm3 := h2.room; have hm4 := h2.cap
  unfold maxLen at hm2 hm4
  rcases Nat.eq_zero_or_pos l.length with hz | hz
  · obtain rfl : l = [] := List.eq_nil_of_length_eq_zero hz
    clear h1 h2 hz
    go_enter Tryz.func15, Tryz.ntmps15
    go_wp2
    refine wp_loop_rounds 1 ?_
    rw [rounds_succ]
    go_wp2
    go_ret
    exact ⟨rfl, Mod.refl _ _⟩
  · obtain ⟨b1, o1, rfl, hb1, hc1⟩ := h1.get hz
    obtain ⟨b2, o2, rfl, hb2, hc2⟩ := h2.get hz
    have HC1 := hid hc1; have HC2 := hid hc2
    clear h1 h2 hc1 hc2
    go_enter Tryz.func15, Tryz.ntmps15
    go_wp2
    go_loopw [13] (fun i wr => ∃ k : Nat, i = .int .i64 k ∧ k ≤ l.length ∧ New w wr) (fun i _ => l.length - (intOf i).toNat)
    case atStart => exact ⟨0, rfl, by omega, Mod.refl _ _⟩
    case round =>
      obtain ⟨k, rfl, hk, hn⟩ := hrel
      have HN := hid hn
      clear hn
      by_cases hlt : k < l.length
      · have hltI : (k : Int) < (l.length : Int) := by omega
        have g1 := HN.out.cellv (HC1.out k hlt)
        have g2 := HN.out.cellv (HC2.out k hlt)
        obtain ⟨x, hx⟩ : ∃ x, x = l[k] := ⟨_, rfl⟩
        rw [← hx] at g1 g2
        have hxx : (x.toList == x.toList) = true := by rw [beq_iff_eq]
        clear hx
        go_wp2
        go_region
        go_wp2
        go_roundw
        case rel => exact ⟨k + 1, by simp, by omega, HN.out.drew⟩
        case measure => simp [intOf]; omega
      · go_wp2
        go_ret
        exact ⟨rfl, HN.out⟩
def exA : ByteArray := ⟨#[97, 97, 97, 97, 97, 97, 97, 97, 97, 97, 97, 97, 97, 97, 97, 97, 97, 97, 97, 97]⟩
def exM : MsgV := ⟨6881, [exA], ⟨#[99]⟩⟩
theorem exM_valid : validM exM = true := by decide +kernel
theorem exM_port : Lib.itoa 6881 = [54, 56, 56, 49] := by
  rw [show (6881 : Int) = ((6881 : Nat) : Int) by rfl, Lib.itoa_nonneg, Lib.decDigits, dif_neg (by omega), Lib.decDigits, dif_neg (by omega), Lib.decDigits, dif_neg (by omega), Lib.decDigits_one (by omega)]
  rfl
def exW : List UInt8 := firstL ++ [13, 10] ++ portL ++ [54, 56, 56, 49] ++ [13, 10] ++ [exA].flatMap (fun n => nameLn n ++ [13, 10]) ++ (cookLn ⟨#[99]⟩ ++ [13, 10, 13, 10])
theorem exM_written : writtenL exM = exW := by
  rw [written_flat]
  show firstL ++ [13, 10] ++ portL ++ Lib.itoa 6881 ++ _ ++ _ ++ _ = _
  rw [exM_port]
  rfl
theorem exM_fmt : fmtB exM = mkB exW ∧ fmtE exM = 0 := by
  unfold fmtB fmtE
  rw [exM_valid, exM_written]
  exact ⟨rfl, rfl⟩
set_option maxRecDepth 100000 in
set_option maxHeartbeats 4000000 in
theorem awake23_any (w : World) (ht : Tab w) : Calls Tryz.prog 6 #[] w fun e w' => e = .returned (.bool true) ∧ New w w' := by
  have HA := hid (fun W (n : New w W) a c h => Format_any exM a c W h (ht.new n))
  rw [exM_fmt.1, exM_fmt.2] at HA
  obtain ⟨S, hS⟩ : ∃ S, S = mkB exW := ⟨_, rfl⟩
  have hsz : S.size = 89 := by rw [hS]; rfl
  have hsl : (S.extract 0 28).toList = [67, 65, 76, 76, 32, 42, 32, 67, 79, 86, 69, 89, 47, 49, 13, 10, 80, 111, 114, 116, 58, 32, 54, 56, 56, 49, 13, 10] := by
    rw [ByteArray.toList_eq, hS]
    rfl
  rw [← hS] at HA
  clear ht hS
  go_enter Tryz.func6, Tryz.ntmps6
  go_wp2_with fail
  have hlies : StrsAt (w.alloc (.cells #[.string exA] 9)) (some ⟨w.heap.size, 0, none⟩) 1 [exA] :=
    ⟨Nat.le_refl _, by simp [maxLen], fun x hx => by simp at hx; subst hx; decide, .inr ⟨_, 0, rfl, by simp, fun i x hx => by
      match i, hx with
      | 0, hx => simp at hx; subst hx; exact (Blk.new w #[.string exA] 9).cellv 0 rfl
      | i + 1, hx => simp at hx⟩⟩
  refine (HA.out _ ((Mod.refl _ _).alloc _) (some ⟨w.heap.size, 0, none⟩) 1 ⟨by decide, hlies, by decide⟩).mono ?_
  rintro e w1 ⟨rfl, n1⟩
  have N1 : Hid (New w w1) := hid (((Mod.refl _ w).alloc (.cells #[.string exA] 9)).trans n1)
  clear n1 hlies
  go_wp2
  go_ret
  exact ⟨rfl, N1.out⟩
end Go.Proofs.YtnflhjagmngimaaGreatDoor

namespace Go.Proofs.YtnflhjagmngimaaGreatDoor
set_option linter.unusedSimpArgs false
set_option linter.unusedVariables false
open Go.RowKit

def noM : MsgV := ⟨0, [], ⟨#[]⟩⟩
def psM (t : ByteArray) : MsgV := if 1400 < t.size then noM else match readP (linesC t.data.toList) with
  | .ok m => m
  | .error _ => noM
def psN (t : ByteArray) : Nat := if 1400 < t.size then 0 else match readP (linesC t.data.toList) with
  | .ok _ => 0
  | .error n => n
def psE (t : ByteArray) : Int := if 1400 < t.size then 3 else match readP (linesC t.data.toList) with
  | .ok _ => 0
  | .error _ => 2
theorem no_strs (w : World) : StrsAt w none 0 noM.names := ⟨by simp [noM], by simp [maxLen], by simp [noM], .inl rfl⟩
theorem Parse_any (t : ByteArray) (w : World) (hv : VarsL w) (hs : t.size ≤ maxLen) :
    Calls Tryz.prog 50 #[.string t] w fun e w' => ∃ a c, e = .returned (.tuple #[msgV a c (psM t), .int .i64 (psN t), .int .i64 (psE t)]) ∧ StrsAt w' a c (psM t).names ∧ New w w' := by
  by_cases h : 1400 < t.size
  · refine (Parse_long t w h hs).mono ?_
    rintro e w' ⟨rfl, n⟩
    unfold psM psN psE
    rw [if_pos h, if_pos h, if_pos h]
    exact ⟨none, 0, rfl, no_strs _, n⟩
  · refine (Parse_go t w hv (by omega)).mono ?_
    rintro e w' ⟨hr, n⟩
    unfold PsRes at hr
    unfold psM psN psE
    rw [if_neg h, if_neg h, if_neg h]
    cases hq : readP (linesC t.data.toList) with
    | ok m =>
      rw [hq] at hr
      obtain ⟨a, c, rfl, hst⟩ := hr
      exact ⟨a, c, rfl, hst, n⟩
    | error k =>
      rw [hq] at hr
      subst hr
      exact ⟨none, 0, rfl, no_strs _, n⟩
theorem rParse_new (t : ByteArray) (w : World) (hv : VarsL w) (hs : t.size ≤ maxLen) :
    Calls Tryz.prog 11 #[.string t] w fun e w' => ∃ a c, e = .returned (.tuple #[msgV a c (psM t), .int .i64 (psE t)]) ∧ StrsAt w' a c (psM t).names ∧ New w w' ∧ ∀ x, a = some x → w.heap.size ≤ x.block := by
  by_cases h : 1400 < t.size
  · refine (rParse_long t w h hs).mono ?_
    rintro e w' ⟨rfl, n⟩
    unfold psM psE
    rw [if_pos h, if_pos h]
    exact ⟨none, 0, rfl, no_strs _, n, (fun x hx => by cases hx)⟩
  · refine (rParse_go t w hv (by omega)).mono ?_
    rintro e w' ⟨hr, n⟩
    unfold PqRes at hr
    rw [parse_same] at hr
    unfold psM psE
    rw [if_neg h, if_neg h]
    unfold parseP at hr
    cases hq : readP (linesC t.data.toList) with
    | ok m =>
      rw [hq] at hr
      obtain ⟨a, c, rfl, hst, hb⟩ := hr
      exact ⟨a, c, rfl, hst, n, hb⟩
    | error k =>
      rw [hq] at hr
      subst hr
      exact ⟨none, 0, rfl, no_strs _, n, (fun x hx => by cases hx)⟩
end Go.Proofs.YtnflhjagmngimaaGreatDoor

namespace Go.Proofs.YtnflhjagmngimaaGreatDoor
set_option linter.unusedSimpArgs false
set_option linter.unusedVariables false
open Go.RowKit Go.Shelf

set_option maxHeartbeats 1000000 in
theorem cCookie_any (B M H : Nat) (c : CrV) (w : World) (h : CrAt w B M H c) : Calls Tryz.prog 13 #[.pointer (some ⟨B, 0, none⟩)] w fun e w' => e = .returned (.string c.cookie) ∧ w' = w := by
  have c1 : w.cell? ⟨B, 1, none⟩ = some (.string c.cookie) := h.row.cellv 1 rfl
  have cl := h.row.lt
  clear h
  go_enter Tryz.func13, Tryz.ntmps13
  go_wp2_with fail
  go_ret
  exact ⟨rfl, rfl⟩
def CrV.turnC (c : CrV) (t : Int) : CrV := if t / 60000 = c.min then { c with now := t } else { c with now := t, min := t / 60000, ips := [], heard := fun _ => 0 }
set_option maxRecDepth 100000 in
set_option maxHeartbeats 4000000 in
theorem turn_any (B M H : Nat) (c : CrV) (t : Int) (w : World) (h : CrAt w B M H c) (ht : 0 ≤ t ∧ t ≤ 1000000000) :
    Calls Tryz.prog 51 #[.pointer (some ⟨B, 0, none⟩), .int .i64 t] w fun e w' => e = .returned (.tuple #[]) ∧ ∃ H', CrAt w' B M H' (c.turnC t) ∧ (H' = H ∨ w.heap.size ≤ H') ∧ Mod (· = B) w w' := by
  have HC := hid h
  have c0 : w.cell? ⟨B, 0, none⟩ = some (.int .i64 c.now) := h.row.cellv 0 rfl
  have c6 : w.cell? ⟨B, 6, none⟩ = some (.int .i64 c.min) := h.row.cellv 6 rfl
  have c7 : w.cell? ⟨B, 7, none⟩ = some (.map (some H)) := h.row.cellv 7 rfl
  have cl := h.row.lt; have f0 := h.row.frz 0; have f6 := h.row.frz 6; have f7 := h.row.frz 7
  obtain ⟨ap1, ap2, ap3⟩ := h.apart
  obtain ⟨lB, lM, lH⟩ := h.lt
  have hmm := @run_makeMap Tryz.prog
  have hq : t.tdiv 60000 = t / 60000 := Int.tdiv_eq_ediv_of_nonneg ht.1
  obtain ⟨q, hq2⟩ : ∃ q, q = t / 60000 := ⟨_, rfl⟩
  have hqb : 0 ≤ q ∧ q ≤ 20000 := by omega
  have hw : IntKind.i64.wrap q = q := by rw [IntKind.wrap_i64]; omega
  rw [← hq2] at hq
  unfold CrV.turnC
  rw [← hq2]
  clear h hq2
  by_cases g : q = c.min
  · have e1 : (q == c.min) = true := by rw [beq_iff_eq]; exact g
    have e2 : (q != c.min) = false := by rw [bne, e1]; rfl
    rw [if_pos g]
    clear g
    go_enter Tryz.func51, Tryz.ntmps51
    go_wp2_with fail
    go_end0
    have hm : Mod (fun k => k = B) w (w.setCell ⟨B, 0, none⟩ (.int .i64 t)) := Mod.set (S := fun k => k = B) (Mod.refl _ _) ⟨B, 0, none⟩ _ (.inl rfl)
    exact ⟨rfl, H, ⟨(HC.out.row.set 0 _).row (by simp [crRow]), HC.out.names.mod hm ap1, HC.out.hears.mod hm ap2, HC.out.apart⟩, .inl rfl, hm⟩
  · have e1 : (q == c.min) = false := by rw [beq_eq_false_iff_ne]; exact g
    have e2 : (q != c.min) = true := by rw [bne, e1]; rfl
    rw [if_neg g]
    clear g
    go_enter Tryz.func51, Tryz.ntmps51
    go_wp2_with fail
    go_end0
    have hm : Mod (fun k => k = B) w (((w.setCell ⟨B, 0, none⟩ (.int .i64 t)).setCell ⟨B, 6, none⟩ (.int .i64 q)).setCell ⟨B, 7, none⟩ (.map (some w.heap.size))) := by
      refine Mod.set (S := fun k => k = B) ?_ ⟨B, 7, none⟩ _ (.inl rfl)
      refine Mod.set (S := fun k => k = B) ?_ ⟨B, 6, none⟩ _ (.inl rfl)
      exact Mod.set (S := fun k => k = B) (Mod.refl _ _) ⟨B, 0, none⟩ _ (.inl rfl)
    have hr : Blk (((w.setCell ⟨B, 0, none⟩ (.int .i64 t)).setCell ⟨B, 6, none⟩ (.int .i64 q)).setCell ⟨B, 7, none⟩ (.map (some w.heap.size))) B (crRow M w.heap.size { c with now := t, min := q, ips := [], heard := fun _ => 0 }) 64 := (((HC.out.row.set 0 _).set 6 _).set 7 _).row (by simp [crRow])
    exact ⟨rfl, w.heap.size, ⟨hr.alloc _, HC.out.names.mod (hm.alloc _) ap1, NumsM.made _ (by simp), ⟨ap1, by omega, by omega⟩⟩, .inr (Nat.le_refl _), hm.alloc _⟩
theorem CrOk.turn {c : CrV} (ho : CrOk c) {t : Int} (h1 : c.now ≤ t) (h2 : t ≤ 1000000000) : CrOk (c.turnC t) := by
  have hn := ho.now; have hs := ho.sent
  unfold CrV.turnC
  split
  · exact ⟨⟨show 0 ≤ t by omega, h2⟩, ho.cook, ho.port, ho.every, ⟨hs.1, show c.sent ≤ t by omega⟩, ho.few, ho.size, ho.last, ho.min⟩
  · exact ⟨⟨show 0 ≤ t by omega, h2⟩, ho.cook, ho.port, ho.every, ⟨hs.1, show c.sent ≤ t by omega⟩, ho.few, ho.size, ho.last, show 0 ≤ t / 60000 by omega⟩
/-- Block b's map behind the storing of a number. -/
theorem NumsM.put {w : World} {b : Nat} {all : List ByteArray} {f : ByteArray → Int} (h : NumsM w b all f) (k : ByteArray) (v : Int) :
    ∃ w', (Instr.mapUpdate 60 (.map (some b)) (.string k) (.int .i64 v)).run Tryz.prog w = .ok () w' ∧ NumsM w' b (if inB all k then all else all ++ [k]) (upd f k v) ∧ Mod (· = b) w w' := by
  cases hk : inB all k with
  | true => exact h.put_there (inB_iff.1 hk) v
  | false => exact h.put_new (inB_no.1 hk) v
def CrV.hearC (c : CrV) (t : Int) (ip : ByteArray) : CrV := { c.turnC t with ips := if inB (c.turnC t).ips ip then (c.turnC t).ips else (c.turnC t).ips ++ [ip], heard := upd (c.turnC t).heard ip ((c.turnC t).heard ip + 1) }
/-- What Hear answers. -/
def CrV.hearE (c : CrV) (t : Int) (x : AdrV) (s : ByteArray) : Int :=
  if adrOk x = false then 1 else if 1400 < s.size then 3 else if c.atE t ≠ 0 then 7 else if psE s ≠ 0 then psE s else if (psM s).cookie.data = c.cookie.data then 9 else if t / 60000 = c.min ∧ c.heard x.ip = 20 then 14 else 0
def adr0 : Value := .agg #[.int .i64 0, .string ⟨#[]⟩, .int .i64 0]
end Go.Proofs.YtnflhjagmngimaaGreatDoor
