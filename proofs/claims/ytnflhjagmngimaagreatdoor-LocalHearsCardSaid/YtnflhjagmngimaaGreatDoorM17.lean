/-
  Several texts in one, in their build order. The walks of Valid and Format, of the program and of the reference. Conditions: the message lies as told; the library's table is laid. The walks of the three functions that read a line's rest (port, name, cookie). Conditions: the message that is read lies as told; the library's variables are as laid. An argument that is a slice of structs (any number of one-cell fields): its cells. Over any program. No condition.
-/
import Derived.Test.YtnflhjagmngimaaGreatDoorM11
import Derived.Test.YtnflhjagmngimaaGreatDoorM16
import Derived.Test.YtnflhjagmngimaaGreatDoorM13
import Derived.Test.YtnflhjagmngimaaGreatDoorM15
import Derived.Maps.AppendAt
import Derived.Test.YtnflhjagmngimaaGreatDoorM1
import Derived.Deep.Slices
import Derived.Deep.Fields
import Derived.ChangeSame
import Derived.ProofKit
import Derived.OpenShut
namespace Go.Proofs.YtnflhjagmngimaaGreatDoor
set_option linter.unusedSimpArgs false
set_option linter.unusedVariables false
open Go.RowKit

/-- How a message lies that is handed over. -/
structure MsgAt (w : World) (a : Option Addr) (c : Nat) (m : MsgV) : Prop where
  port : -9223372036854775808 ≤ m.port ∧ m.port ≤ 9223372036854775807
  names : StrsAt w a c m.names
  cook : m.cookie.size ≤ maxLen
theorem MsgAt.new {w w' : World} {a : Option Addr} {c : Nat} {m : MsgV} (h : MsgAt w a c m) (n : New w w') : MsgAt w' a c m := ⟨h.port, h.names.new n, h.cook⟩
/-- A message as it is handed over. -/
abbrev msgV (a : Option Addr) (c : Nat) (m : MsgV) : Value := .agg #[.int .i64 m.port, .slice a m.names.length c, .string m.cookie]
theorem valid_port {m : MsgV} (h : ¬ (1 ≤ m.port ∧ m.port ≤ 65535)) : validM m = false := by
  cases hv : validM m with
  | false => rfl
  | true => exact absurd (valid_parts hv).1 h
theorem valid_names {m : MsgV} (h : namesB m.names = false) : validM m = false := by
  unfold validM
  rw [h, Bool.and_false, Bool.false_and]
theorem valid_cook {m : MsgV} (h : cookieOk m.cookie = false) : validM m = false := by
  unfold validM
  rw [h, Bool.and_false]
def fmtB (m : MsgV) : ByteArray := if validM m then mkB (writtenL m) else ⟨#[]⟩
def fmtE (m : MsgV) : Int := if validM m then 0 else 1
theorem ret_fmt {m : MsgV} {b : ByteArray} {e : Int} (h1 : b = fmtB m) (h2 : e = fmtE m) : Ending.returned (.tuple #[.string b, .int .i64 e]) = .returned (.tuple #[.string (fmtB m), .int .i64 (fmtE m)]) := by rw [h1, h2]
set_option maxRecDepth 100000 in
set_option maxHeartbeats 4000000 in
theorem Valid_any (m : MsgV) (a : Option Addr) (c : Nat) (w : World) (h : MsgAt w a c m) (ht : Tab w) : Calls Tryz.prog 41 #[msgV a c m] w fun e w' => e = .returned (.bool (validM m)) ∧ New w w' := by
  obtain ⟨pl, pu⟩ := h.port
  have HNM := hid (fun W (n : New w W) => names_any a c m.names W (h.names.new n))
  have HCK := hid (fun W => cookie_any m.cookie W h.cook)
  have HWR := hid (fun W (n : New w W) (hv : validM m = true) => written_any m a c W hv (h.names.new n) (ht.new n))
  have HWL := hid (fun (hv : validM m = true) => written_len hv)
  obtain ⟨X, hX⟩ : ∃ X, X = validM m := ⟨_, rfl⟩
  rw [← hX]
  have HX := hid hX
  clear hX
  have HVP := hid (fun q => valid_port (m := m) q)
  have HVN := hid (fun q => valid_names (m := m) q)
  have HVC := hid (fun q => valid_cook (m := m) q)
  have HVV := hid (fun (q0 : 1 ≤ m.port) (q1 : m.port ≤ 65535) (q2 : namesB m.names = true) (q3 : cookieOk m.cookie = true) => (show validM m = true from valid_of ⟨q0, q1⟩ q2 q3))
  have HB := hid (Blk.new w #[.int .i64 m.port, .slice a m.names.length c, .string m.cookie] 34)
  obtain ⟨port, hport⟩ : ∃ p, p = m.port := ⟨_, rfl⟩
  rw [← hport] at HVP HVV pl pu HB HWR
  clear h ht
  unfold msgV
  rw [← hport]
  clear hport
  by_cases p1 : 1 ≤ port
  · by_cases p2 : port ≤ 65535
    · cases hn : namesB m.names with
      | false =>
        rw [hn] at HNM
        have HF := hid (HVN.out hn)
        clear hn
        go_enter Tryz.func41, Tryz.ntmps41
        go_wp2_with (first | (go_at_call 72; refine (HNM.out _ ((Mod.refl _ _).alloc _)).mono ?_; rintro e w2 ⟨rfl, rfl⟩) | (go_at_call 73; refine (HCK.out _).mono ?_; rintro e w3 ⟨rfl, rfl⟩) | (go_at_call 42; refine (HWR.out _ ((Mod.refl _ _).alloc _)).mono ?_; rintro e w4 ⟨rfl, n4⟩; have N4 := hid n4; clear n4))
        go_ret
        exact ⟨ret_bool (by rw [HX.out, HF.out]), (Mod.refl _ _).alloc _⟩
      | true =>
        rw [hn] at HNM
        cases hc : cookieOk m.cookie with
        | false =>
          rw [hc] at HCK
          have HF := hid (HVC.out hc)
          clear hn hc
          go_enter Tryz.func41, Tryz.ntmps41
          go_wp2_with (first | (go_at_call 72; refine (HNM.out _ ((Mod.refl _ _).alloc _)).mono ?_; rintro e w2 ⟨rfl, rfl⟩) | (go_at_call 73; refine (HCK.out _).mono ?_; rintro e w3 ⟨rfl, rfl⟩) | (go_at_call 42; refine (HWR.out _ ((Mod.refl _ _).alloc _)).mono ?_; rintro e w4 ⟨rfl, n4⟩; have N4 := hid n4; clear n4))
          go_ret
          exact ⟨ret_bool (by rw [HX.out, HF.out]), (Mod.refl _ _).alloc _⟩
        | true =>
          rw [hc] at HCK
          have hvt := HVV.out p1 p2 hn hc
          have HT := hid (show validM m = true from hvt)
          have HWR := hid (fun W n => HWR.out W n HT.out)
          have hwl := HWL.out HT.out
          have hsz : (mkB (writtenL m)).size ≤ 1400 := by rw [mkB_size]; exact hwl
          have hszI : ((mkB (writtenL m)).size : Int) ≤ 1400 := by omega
          clear hn hc hvt hwl
          go_enter Tryz.func41, Tryz.ntmps41
          go_wp2_with (first | (go_at_call 72; refine (HNM.out _ ((Mod.refl _ _).alloc _)).mono ?_; rintro e w2 ⟨rfl, rfl⟩) | (go_at_call 73; refine (HCK.out _).mono ?_; rintro e w3 ⟨rfl, rfl⟩) | (go_at_call 42; refine (HWR.out _ ((Mod.refl _ _).alloc _)).mono ?_; rintro e w4 ⟨rfl, n4⟩; have N4 := hid n4; clear n4))
          go_ret
          exact ⟨ret_bool (by rw [HX.out, HT.out]), ((Mod.refl _ _).alloc _).trans N4.out⟩
    · have HF := hid (HVP.out (by omega))
      go_enter Tryz.func41, Tryz.ntmps41
      go_wp2
      go_ret
      exact ⟨ret_bool (by rw [HX.out, HF.out]), (Mod.refl _ _).alloc _⟩
  · have HF := hid (HVP.out (by omega))
    go_enter Tryz.func41, Tryz.ntmps41
    go_wp2
    go_ret
    exact ⟨ret_bool (by rw [HX.out, HF.out]), (Mod.refl _ _).alloc _⟩
set_option maxRecDepth 100000 in
set_option maxHeartbeats 4000000 in
theorem Format_any (m : MsgV) (a : Option Addr) (c : Nat) (w : World) (h : MsgAt w a c m) (ht : Tab w) : Calls Tryz.prog 32 #[msgV a c m] w fun e w' => e = .returned (.tuple #[.string (fmtB m), .int .i64 (fmtE m)]) ∧ New w w' := by
  have HV := hid (fun W (n : New w W) => Valid_any m a c W (h.new n) (ht.new n))
  have HWR := hid (fun (hv : validM m = true) W (n : New w W) => written_any m a c W hv (h.names.new n) (ht.new n))
  have HB := hid (Blk.new w #[.int .i64 m.port, .slice a m.names.length c, .string m.cookie] 34)
  clear h ht
  cases hv : validM m with
  | true =>
    rw [hv] at HV
    have HWR := hid (HWR.out hv)
    have HR := hid (show fmtB m = mkB (writtenL m) ∧ fmtE m = 0 by unfold fmtB fmtE; rw [hv]; exact ⟨rfl, rfl⟩)
    clear hv
    go_enter Tryz.func32, Tryz.ntmps32
    go_wp2_with fail
    refine (HV.out _ ((Mod.refl _ _).alloc _)).mono ?_
    rintro e w1 ⟨rfl, n1⟩
    have N1 := hid (((Mod.refl _ w).alloc (.cells #[.int .i64 m.port, .slice a m.names.length c, .string m.cookie] 34)).trans n1 : New w w1)
    have B1 := hid (n1.blk HB.out)
    clear n1
    have d0 := B1.out.cellv 0 rfl; have d1 := B1.out.cellv 1 rfl; have d2 := B1.out.cellv 2 rfl; have d3 := B1.out.lt
    go_wp2_with fail
    refine (HWR.out _ N1.out).mono ?_
    rintro e w2 ⟨rfl, n2⟩
    have N2 := hid (N1.out.trans n2)
    clear n2
    go_wp2
    go_ret2
    exact ⟨ret_fmt HR.out.1.symm HR.out.2.symm, N2.out⟩
  | false =>
    rw [hv] at HV
    have HR := hid (show fmtB m = ⟨#[]⟩ ∧ fmtE m = 1 by unfold fmtB fmtE; rw [hv]; exact ⟨rfl, rfl⟩)
    clear hv
    go_enter Tryz.func32, Tryz.ntmps32
    go_wp2_with fail
    refine (HV.out _ ((Mod.refl _ _).alloc _)).mono ?_
    rintro e w1 ⟨rfl, n1⟩
    have N1 := hid (((Mod.refl _ w).alloc (.cells #[.int .i64 m.port, .slice a m.names.length c, .string m.cookie] 34)).trans n1 : New w w1)
    clear n1
    go_wp2
    go_ret2
    exact ⟨ret_fmt HR.out.1.symm HR.out.2.symm, N1.out⟩
end Go.Proofs.YtnflhjagmngimaaGreatDoor

namespace Go.Proofs.YtnflhjagmngimaaGreatDoor
set_option linter.unusedSimpArgs false
set_option linter.unusedVariables false
open Go.RowKit Go.Shelf

theorem portP_err {r : List UInt8} (h : ∀ v, Lib.atoiAll r ≠ .ok v) : portP r = none := by
  unfold portP
  split
  · next n q => exact absurd q (h n)
  · rfl
theorem portP_ok {r : List UInt8} {n : Int} (h : Lib.atoiAll r = .ok n) : portP r = if Lib.itoa n = r ∧ 1 ≤ n ∧ n ≤ 65535 then some n else none := by
  unfold portP
  rw [h]
theorem portP_val {r : List UInt8} {n : Int} (h : portP r = some n) : atoiV r = n := by
  cases ha : Lib.atoiAll r with
  | ok v =>
    rw [portP_ok ha] at h
    split at h
    · rw [atoi_ok ha]
      exact Option.some.inj h
    · cases h
  | _ => rw [portP_err (fun v => by rw [ha]; simp)] at h; cases h
theorem itoa_is (n : Int) (t : ByteArray) : ((itoaB n).toList == t.toList) = decide (Lib.itoa n = t.data.toList) := by
  rw [ByteArray.toList_eq, ByteArray.toList_eq, Bool.eq_iff_iff]
  simp [itoaB]
set_option maxRecDepth 100000 in
set_option maxHeartbeats 4000000 in
theorem k1_any (B : Nat) (p : Int) (v : Value) (ck nx rest : ByteArray) (ln : Int) (w0 w : World) (hv : VarsL w0) (hn0 : New w0 w) (hB0 : w0.heap.size ≤ B) (hB : Blk w B #[.int .i64 p, v, .string ck, .int .i64 ln, .string nx] 159) (hs : rest.size ≤ 65536) :
    Calls Tryz.prog 161 #[.pointer (some ⟨B, 0, none⟩), .string rest] w fun e w' => e = .returned (.bool (portP rest.data.toList).isSome) ∧ Blk w' B #[.int .i64 (atoiV rest.data.toList), v, .string ck, .int .i64 ln, .string ⟨#[78, 97, 109, 101, 58, 32]⟩] 159 ∧ Mod (fun k => k = B) w w' := by
  have HA := hid (atoi_full rest w (hv.new hn0) (by omega))
  have HIT := hid (fun (n : Int) (q0 : -9223372036854775808 ≤ n) (q1 : n ≤ 9223372036854775807) W (m : New w0 W) => itoa_any n q0 q1 W (hv.tab.new m))
  obtain ⟨bl, bu⟩ := atoi_inL (l := rest.data.toList)
  have HEQ := hid (fun n => itoa_is n rest)
  obtain ⟨n, hn⟩ : ∃ n, n = atoiV rest.data.toList := ⟨_, rfl⟩
  rw [← hn] at bl bu
  have HN0 := hid hn0
  have HB := hid hB
  have HNV := hid hn
  have HBI := hid hB0
  rw [← hn]
  clear hv hn0 hB hn hB0
  go_enter Tryz.func161, Tryz.ntmps161
  go_wp2_with fail
  refine HA.out.mono ?_
  intro e w1 ho
  obtain ⟨x, rfl, hx, n1⟩ := ho
  have N1 := hid n1
  have HB1 := hid (n1.blk HB.out)
  have d0 := HB1.out.cellv 0 rfl; have d4 := HB1.out.cellv 4 rfl; have dl := HB1.out.lt; have df := HB1.out.frz
  have HN2 : Hid (New w0 ((w1.setCell ⟨B, 0, none⟩ (.int .i64 n)).setCell ⟨B, 4, none⟩ (.string ⟨#[78, 97, 109, 101, 58, 32]⟩))) := hid (((HN0.out.trans n1).set _ _ (.inr HBI.out)).set _ _ (.inr HBI.out))
  have HBB := hid ((HB1.out.set 0 (.int .i64 n)).set 4 (.string ⟨#[78, 97, 109, 101, 58, 32]⟩))
  have HMM : Hid (Mod (fun k => k = B) w ((w1.setCell ⟨B, 0, none⟩ (.int .i64 n)).setCell ⟨B, 4, none⟩ (.string ⟨#[78, 97, 109, 101, 58, 32]⟩))) := hid (Mod.set (S := fun k => k = B) (Mod.set (S := fun k => k = B) n1.mod ⟨B, 0, none⟩ _ (.inl rfl)) ⟨B, 4, none⟩ _ (.inl rfl))
  clear n1
  rw [← HNV.out] at hx ⊢
  rcases hx with ⟨hok, rfl⟩ | ⟨hno, N, rfl⟩
  · have HP := hid (portP_ok hok)
    have HI := hid (HIT.out n bl bu _ HN2.out)
    have heq := HEQ.out n
    obtain ⟨I, hI⟩ : ∃ I, I = itoaB n := ⟨_, rfl⟩
    rw [← hI] at HI heq
    clear hok hI
    by_cases q0 : Lib.itoa n = rest.data.toList
    · rw [decide_eq_true q0] at heq
      have HQ := hid q0
      clear q0
      by_cases q1 : 1 ≤ n
      · by_cases q2 : n ≤ 65535
        · have HR := hid (show (portP rest.data.toList).isSome = true by rw [HP.out, if_pos ⟨HQ.out, q1, q2⟩]; rfl)
          go_wp2_with fail
          refine HI.out.mono ?_
          rintro e w3 ⟨rfl, n3⟩
          have N3 := hid n3
          clear n3
          go_wp2
          go_ret
          exact ⟨ret_bool (by first | exact HR.out.symm | (rw [HR.out]; simp; omega)), N3.out.blk HBB.out, HMM.out.trans N3.out.mod⟩
        · have HR := hid (show (portP rest.data.toList).isSome = false by rw [HP.out, if_neg (fun q => q2 q.2.2)]; rfl)
          go_wp2_with fail
          refine HI.out.mono ?_
          rintro e w3 ⟨rfl, n3⟩
          have N3 := hid n3
          clear n3
          go_wp2
          go_ret
          exact ⟨ret_bool (by first | exact HR.out.symm | (rw [HR.out]; simp; omega)), N3.out.blk HBB.out, HMM.out.trans N3.out.mod⟩
      · have HR := hid (show (portP rest.data.toList).isSome = false by rw [HP.out, if_neg (fun q => q1 q.2.1)]; rfl)
        go_wp2_with fail
        refine HI.out.mono ?_
        rintro e w3 ⟨rfl, n3⟩
        have N3 := hid n3
        clear n3
        go_wp2
        go_ret
        exact ⟨ret_bool (by first | exact HR.out.symm | (rw [HR.out]; simp; omega)), N3.out.blk HBB.out, HMM.out.trans N3.out.mod⟩
    · rw [decide_eq_false q0] at heq
      have HR := hid (show (portP rest.data.toList).isSome = false by rw [HP.out, if_neg (fun q => q0 q.1)]; rfl)
      clear q0
      go_wp2_with fail
      refine HI.out.mono ?_
      rintro e w3 ⟨rfl, n3⟩
      have N3 := hid n3
      clear n3
      go_wp2
      go_ret
      exact ⟨ret_bool (by first | exact HR.out.symm | (rw [HR.out]; simp; omega)), N3.out.blk HBB.out, HMM.out.trans N3.out.mod⟩
  · have HR := hid (show (portP rest.data.toList).isSome = false by rw [portP_err hno]; rfl)
    clear hno
    go_wp2
    go_ret
    exact ⟨ret_bool HR.out.symm, HBB.out, HMM.out⟩
set_option maxRecDepth 100000 in
set_option maxHeartbeats 4000000 in
theorem k3_any (B : Nat) (p : Int) (v : Value) (ck nx rest : ByteArray) (ln : Int) (w : World) (hB : Blk w B #[.int .i64 p, v, .string ck, .int .i64 ln, .string nx] 159) (hs : rest.size ≤ 65536) :
    Calls Tryz.prog 164 #[.pointer (some ⟨B, 0, none⟩), .string rest] w fun e w' => e = .returned (.bool (cookieOk rest)) ∧ Blk w' B #[.int .i64 p, v, .string rest, .int .i64 ln, .string ⟨#[]⟩] 159 ∧ Mod (fun k => k = B) w w' := by
  have HCK := hid (fun W => cookie_any rest W (by unfold maxLen; omega))
  have HB := hid hB
  have d2 := HB.out.cellv 2 rfl; have d4 := HB.out.cellv 4 rfl; have dl := HB.out.lt; have df := HB.out.frz
  have HBB := hid ((HB.out.set 2 (.string rest)).set 4 (.string ⟨#[]⟩))
  have HMM : Hid (Mod (fun k => k = B) w ((w.setCell ⟨B, 2, none⟩ (.string rest)).setCell ⟨B, 4, none⟩ (.string ⟨#[]⟩))) := hid (Mod.set (S := fun k => k = B) (Mod.set (S := fun k => k = B) (Mod.refl _ _) ⟨B, 2, none⟩ _ (.inl rfl)) ⟨B, 4, none⟩ _ (.inl rfl))
  clear hB
  go_enter Tryz.func164, Tryz.ntmps164
  go_wp2_with fail
  refine (HCK.out _).mono ?_
  rintro e w3 ⟨rfl, rfl⟩
  go_wp2
  go_ret
  exact ⟨rfl, HBB.out, HMM.out⟩
end Go.Proofs.YtnflhjagmngimaaGreatDoor

namespace Go.Proofs.YtnflhjagmngimaaGreatDoor
set_option linter.unusedSimpArgs false
set_option linter.unusedVariables false
open Go.ChangeShapes Go.WideShapes Go.Deep Go.RowKit
section
variable {H : Type} {enc : TypeId × Value → H} {P : Program} {w : World} {base : Nat} {spare : Nat → Bool} {held : Bool}
theorem open_slice_fields {t e : TypeId} {fs : Array Field} {fuel : Nat} {cs : List Value} {x : DataW H × List MemPlace} (ht : P.underlying t = some (.slice e)) (he : P.underlying e = some (.struct fs))
    (hone : oneCellFields P fs = true) (hC : P.cellsOf e = fs.size) (h : DataW.trod enc P w base spare held fuel t cs = some x) :
    (cs = [.slice none 0 0] ∧ x = (.nil, [])) ∨
    ∃ (a : Addr) (len cap m : Nat) (D : Nat → DataW H) (Pl : Nat → List MemPlace), cs = [.slice (some a) len cap] ∧ base ≤ a.block ∧ len ≤ cap ∧ cap ≤ maxLen ∧ m = (if spare a.block then cap else len) ∧
      x = (.slice ((List.range len).map D) ((List.range (m - len)).map fun j => D (len + j)), MemPlace.row a (m * fs.size) ++ (List.range m).flatMap Pl) ∧
      ∀ i, i < m → ∃ (ys : List (DataW H × List MemPlace)) (n : Nat), D i = .agg (ys.map (·.1)) ∧ Pl i = ys.flatMap (·.2) ∧ ys.length = fs.size ∧
        ∀ (j : Nat) (f : Field), fs[j]? = some f → ∃ (v : Value) (y : DataW H × List MemPlace), w.cell? (a.add (i * fs.size + j)) = some v ∧ ys[j]? = some y ∧ DataW.trod enc P w base spare held n f.type [v] = some y := by
  rcases open_slice ht h with h0 | ⟨a, len, cap, m, n, D, Pl, hcs, hb, hl, hm, hmm, hx, hi⟩
  · exact .inl h0
  · refine .inr ⟨a, len, cap, m, D, Pl, hcs, hb, hl, hm, hmm, by rw [hC] at hx; exact hx, fun i him => ?_⟩
    obtain ⟨cs', hc, ht'⟩ := hi i him
    rw [hC] at hc
    obtain ⟨ys, n', hn', hy, hlen, hyl, hf⟩ := DataW.trod_struct he ht'
    obtain ⟨_, hcl, hat⟩ := World.cells?_some hc
    simp only [Prod.mk.injEq] at hy
    refine ⟨ys, n', hy.1, hy.2, hyl, fun j f hj => ?_⟩
    obtain ⟨ho, hk⟩ := hone_of hone j f hj
    have hjl : j < fs.size := (Array.getElem?_eq_some_iff.1 hj).1
    have hcell := hat j hjl
    have hv : cs'[j]? = some (cs'[j]'(by omega)) := List.getElem?_eq_getElem (by omega)
    have h1 := hf j f hj
    rw [ho, hk] at h1
    have hone' : (cs'.drop j).take 1 = [cs'[j]'(by omega)] := by
      rw [List.drop_eq_getElem_cons (by omega)]
      rfl
    rw [hone'] at h1
    have hys : ys[j]? = some (ys[j]'(by omega)) := List.getElem?_eq_getElem (by omega)
    refine ⟨_, _, ?_, hys, h1.trans hys⟩
    rw [← Go.Deep.add_add, hcell, hv]
end
/-- As many things as there are places, one for each place. -/
theorem list_of {α : Type} {p : Nat → α → Prop} (n : Nat) (h : ∀ i, i < n → ∃ x, p i x) : ∃ l : List α, l.length = n ∧ ∀ i x, l[i]? = some x → p i x := by
  induction n with
  | zero => exact ⟨[], rfl, fun i x hx => by simp at hx⟩
  | succ n ih =>
    obtain ⟨l, hl, hp⟩ := ih (fun i hi => h i (by omega))
    obtain ⟨x, hx⟩ := h n (by omega)
    refine ⟨l ++ [x], by simp [hl], fun i y hy => ?_⟩
    by_cases hi : i < n
    · rw [List.getElem?_append_left (by omega)] at hy
      exact hp i y hy
    · have hlt : i < (l ++ [x]).length := (List.getElem?_eq_some_iff.1 hy).1
      simp at hlt
      have : i = n := by omega
      subst this
      rw [List.getElem?_append_right (by omega), hl] at hy
      simp at hy
      exact hy ▸ hx
theorem cell_spot {w : World} {a : Addr} {v : Value} (h : w.cell? a = some v) : a.spot = none := by
  unfold World.cell? at h
  split at h
  · split at h
    · cases h
    · next hs => cases hq : a.spot <;> simp_all
  · cases h
theorem add_none (b off i : Nat) : (⟨b, off, none⟩ : Addr).add i = ⟨b, off + i, none⟩ := by
  unfold Addr.add
  split
  · next h => subst h; rfl
  · rfl
end Go.Proofs.YtnflhjagmngimaaGreatDoor
