/-
  Several texts in one, in their build order. The walks of Valid and Format, of the program and of the reference. Conditions: the message lies as told; the library's table is laid. The walk of a crier's Tell (package local). Conditions: the crier lies as told; the library's table is laid.
-/
import Derived.Test.YtnflhjagmngimaaGreatDoorM8
import Derived.Test.YtnflhjagmngimaaGreatDoorM13
import Derived.Test.YtnflhjagmngimaaGreatDoorM12
namespace Go.Proofs.YtnflhjagmngimaaGreatDoor
set_option linter.unusedSimpArgs false
set_option linter.unusedVariables false
open Go.RowKit

/-- How a message lies that is handed over. -/
structure MsgAt (w : World) (a : Option Addr) (c : Nat) (m : MsgV) : Prop where
  port : -9223372036854775808 ≤ m.port ∧ m.port ≤ 9223372036854775807
  names : StrsAt w a c m.names
  cook : m.cookie.size ≤ maxLen
theorem MsgAt.new {w w' : World} {a : Option Addr} {c : Nat} {m : MsgV} (h : MsgAt w a c m) (n : New w w') : MsgAt w' a c m := ⟨h.port, h.names.new n, h.cook⟩
/-- A message as it is handed over. -/
abbrev msgV (a : Option Addr) (c : Nat) (m : MsgV) : Value := .agg #[.int .i64 m.port, .slice a m.names.length c, .string m.cookie]
theorem valid_port {m : MsgV} (h : ¬ (1 ≤ m.port ∧ m.port ≤ 65535)) : validM m = false := by
  cases hv : validM m with
  | false => rfl
  | true => exact absurd (valid_parts hv).1 h
theorem valid_names {m : MsgV} (h : namesB m.names = false) : validM m = false := by
  unfold validM
  rw [h, Bool.and_false, Bool.false_and]
theorem valid_cook {m : MsgV} (h : cookieOk m.cookie = false) : validM m = false := by
  unfold validM
  rw [h, Bool.and_false]
def fmtB (m : MsgV) : ByteArray := if validM m then mkB (writtenL m) else ⟨#[]⟩
def fmtE (m : MsgV) : Int := if validM m then 0 else 1
theorem ret_fmt {m : MsgV} {b : ByteArray} {e : Int} (h1 : b = fmtB m) (h2 : e = fmtE m) : Ending.returned (.tuple #[.string b, .int .i64 e]) = .returned (.tuple #[.string (fmtB m), .int .i64 (fmtE m)]) := by rw [h1, h2]
set_option maxRecDepth 100000 in
set_option maxHeartbeats 4000000 in
theorem Valid_any (m : MsgV) (a : Option Addr) (c : Nat) (w : World) (h : MsgAt w a c m) (ht : Tab w) : Calls Tryz.prog 41 #[msgV a c m] w fun e w' => e = .returned (.bool (validM m)) ∧ New w w' := by
  obtain ⟨pl, pu⟩ := h.port
  have HNM := hid (fun W (n : New w W) => names_any a c m.names W (h.names.new n))
  have HCK := hid (fun W => cookie_any m.cookie W h.cook)
  have HWR := hid (fun W (n : New w W) (hv : validM m = true) => written_any m a c W hv (h.names.new n) (ht.new n))
  have HWL := hid (fun (hv : validM m = true) => written_len hv)
  obtain ⟨X, hX⟩ : ∃ X, X = validM m := ⟨_, rfl⟩
  rw [← hX]
  have HX := hid hX
  clear hX
  have HVP := hid (fun q => valid_port (m := m) q)
  have HVN := hid (fun q => valid_names (m := m) q)
  have HVC := hid (fun q => valid_cook (m := m) q)
  have HVV := hid (fun (q0 : 1 ≤ m.port) (q1 : m.port ≤ 65535) (q2 : namesB m.names = true) (q3 : cookieOk m.cookie = true) => (show validM m = true from valid_of ⟨q0, q1⟩ q2 q3))
  have HB := hid (Blk.new w #[.int .i64 m.port, .slice a m.names.length c, .string m.cookie] 34)
  obtain ⟨port, hport⟩ : ∃ p, p = m.port := ⟨_, rfl⟩
  rw [← hport] at HVP HVV pl pu HB HWR
  clear h ht
  unfold msgV
  rw [← hport]
  clear hport
  by_cases p1 : 1 ≤ port
  · by_cases p2 : port ≤ 65535
    · cases hn : namesB m.names with
      | false =>
        rw [hn] at HNM
        have HF := hid (HVN.out hn)
        clear hn
        go_enter Tryz.func41, Tryz.ntmps41
        go_wp2_with (first | (go_at_call 72; refine (HNM.out _ ((Mod.refl _ _).alloc _)).mono ?_; rintro e w2 ⟨rfl, rfl⟩) | (go_at_call 73; refine (HCK.out _).mono ?_; rintro e w3 ⟨rfl, rfl⟩) | (go_at_call 42; refine (HWR.out _ ((Mod.refl _ _).alloc _)).mono ?_; rintro e w4 ⟨rfl, n4⟩; have N4 := hid n4; clear n4))
        go_ret
        exact ⟨ret_bool (by rw [HX.out, HF.out]), (Mod.refl _ _).alloc _⟩
      | true =>
        rw [hn] at HNM
        cases hc : cookieOk m.cookie with
        | false =>
          rw [hc] at HCK
          have HF := hid (HVC.out hc)
          clear hn hc
          go_enter Tryz.func41, Tryz.ntmps41
          go_wp2_with (first | (go_at_call 72; refine (HNM.out _ ((Mod.refl _ _).alloc _)).mono ?_; rintro e w2 ⟨rfl, rfl⟩) | (go_at_call 73; refine (HCK.out _).mono ?_; rintro e w3 ⟨rfl, rfl⟩) | (go_at_call 42; refine (HWR.out _ ((Mod.refl _ _).alloc _)).mono ?_; rintro e w4 ⟨rfl, n4⟩; have N4 := hid n4; clear n4))
          go_ret
          exact ⟨ret_bool (by rw [HX.out, HF.out]), (Mod.refl _ _).alloc _⟩
        | true =>
          rw [hc] at HCK
          have hvt := HVV.out p1 p2 hn hc
          have HT := hid (show validM m = true from hvt)
          have HWR := hid (fun W n => HWR.out W n HT.out)
          have hwl := HWL.out HT.out
          have hsz : (mkB (writtenL m)).size ≤ 1400 := by rw [mkB_size]; exact hwl
          have hszI : ((mkB (writtenL m)).size : Int) ≤ 1400 := by omega
          clear hn hc hvt hwl
          go_enter Tryz.func41, Tryz.ntmps41
          go_wp2_with (first | (go_at_call 72; refine (HNM.out _ ((Mod.refl _ _).alloc _)).mono ?_; rintro e w2 ⟨rfl, rfl⟩) | (go_at_call 73; refine (HCK.out _).mono ?_; rintro e w3 ⟨rfl, rfl⟩) | (go_at_call 42; refine (HWR.out _ ((Mod.refl _ _).alloc _)).mono ?_; rintro e w4 ⟨rfl, n4⟩; have N4 := hid n4; clear n4))
          go_ret
          exact ⟨ret_bool (by rw [HX.out, HT.out]), ((Mod.refl _ _).alloc _).trans N4.out⟩
    · have HF := hid (HVP.out (by omega))
      go_enter Tryz.func41, Tryz.ntmps41
      go_wp2
      go_ret
      exact ⟨ret_bool (by rw [HX.out, HF.out]), (Mod.refl _ _).alloc _⟩
  · have HF := hid (HVP.out (by omega))
    go_enter Tryz.func41, Tryz.ntmps41
    go_wp2
    go_ret
    exact ⟨ret_bool (by rw [HX.out, HF.out]), (Mod.refl _ _).alloc _⟩
set_option maxRecDepth 100000 in
set_option maxHeartbeats 4000000 in
theorem Format_any (m : MsgV) (a : Option Addr) (c : Nat) (w : World) (h : MsgAt w a c m) (ht : Tab w) : Calls Tryz.prog 32 #[msgV a c m] w fun e w' => e = .returned (.tuple #[.string (fmtB m), .int .i64 (fmtE m)]) ∧ New w w' := by
  have HV := hid (fun W (n : New w W) => Valid_any m a c W (h.new n) (ht.new n))
  have HWR := hid (fun (hv : validM m = true) W (n : New w W) => written_any m a c W hv (h.names.new n) (ht.new n))
  have HB := hid (Blk.new w #[.int .i64 m.port, .slice a m.names.length c, .string m.cookie] 34)
  clear h ht
  cases hv : validM m with
  | true =>
    rw [hv] at HV
    have HWR := hid (HWR.out hv)
    have HR := hid (show fmtB m = mkB (writtenL m) ∧ fmtE m = 0 by unfold fmtB fmtE; rw [hv]; exact ⟨rfl, rfl⟩)
    clear hv
    go_enter Tryz.func32, Tryz.ntmps32
    go_wp2_with fail
    refine (HV.out _ ((Mod.refl _ _).alloc _)).mono ?_
    rintro e w1 ⟨rfl, n1⟩
    have N1 := hid (((Mod.refl _ w).alloc (.cells #[.int .i64 m.port, .slice a m.names.length c, .string m.cookie] 34)).trans n1 : New w w1)
    have B1 := hid (n1.blk HB.out)
    clear n1
    have d0 := B1.out.cellv 0 rfl; have d1 := B1.out.cellv 1 rfl; have d2 := B1.out.cellv 2 rfl; have d3 := B1.out.lt
    go_wp2_with fail
    refine (HWR.out _ N1.out).mono ?_
    rintro e w2 ⟨rfl, n2⟩
    have N2 := hid (N1.out.trans n2)
    clear n2
    go_wp2
    go_ret2
    exact ⟨ret_fmt HR.out.1.symm HR.out.2.symm, N2.out⟩
  | false =>
    rw [hv] at HV
    have HR := hid (show fmtB m = ⟨#[]⟩ ∧ fmtE m = 1 by unfold fmtB fmtE; rw [hv]; exact ⟨rfl, rfl⟩)
    clear hv
    go_enter Tryz.func32, Tryz.ntmps32
    go_wp2_with fail
    refine (HV.out _ ((Mod.refl _ _).alloc _)).mono ?_
    rintro e w1 ⟨rfl, n1⟩
    have N1 := hid (((Mod.refl _ w).alloc (.cells #[.int .i64 m.port, .slice a m.names.length c, .string m.cookie] 34)).trans n1 : New w w1)
    clear n1
    go_wp2
    go_ret2
    exact ⟨ret_fmt HR.out.1.symm HR.out.2.symm, N1.out⟩
end Go.Proofs.YtnflhjagmngimaaGreatDoor

namespace Go.Proofs.YtnflhjagmngimaaGreatDoor
set_option linter.unusedSimpArgs false
set_option linter.unusedVariables false
open Go.RowKit Go.Shelf
attribute [local go_sem] Oper.semAt_some

/-- What lies about the loop of Tell: N are the names so far, in a slice (a', c'). -/
structure TlE (w : World) (B M H : Nat) (c : CrV) (t : Int) (vb : Nat) (a : Option Addr) (cap : Nat) (U : List ByteArray) (D : Nat) (lo : Obj) (a' : Option Addr) (c' : Nat) (N : List ByteArray) (W : World) : Prop where
  r0 : Blk W w.heap.size #[.pointer (some ⟨B, 0, none⟩)] 24
  r1 : Blk W (w.heap.size + 1) #[.int .i64 t] 3
  r2 : Blk W (w.heap.size + 2) #[.int .i64 c.port, .slice a' N.length c', .string c.cookie] 34
  ns : StrsAt W a' c' N
  nb : ∀ x, a' = some x → D + 1 < x.block
  cr : CrAt W B M H c
  vals : Blk W vb #[.slice a U.length cap] 22
  strs : StrsAt W a cap U
  hD : W.heap[D]? = some (.deferred (some []))
  hL : W.heap[D + 1]? = some lo
  mod : New w W
theorem TlE.step {w : World} {B M H : Nat} {c : CrV} {t : Int} {vb : Nat} {a : Option Addr} {cap : Nat} {U : List ByteArray} {D : Nat} {lo : Obj} {a' : Option Addr} {c' : Nat} {N : List ByteArray} {W W' : World} (h : TlE w B M H c t vb a cap U D lo a' c' N W) (hm : New W W') : TlE w B M H c t vb a cap U D lo a' c' N W' :=
  ⟨New.blk hm h.r0, New.blk hm h.r1, New.blk hm h.r2, h.ns.new hm, h.nb, h.cr.new hm, New.blk hm h.vals, h.strs.new hm, (hm.block _ (Array.getElem?_eq_some_iff.1 h.hD).1 (fun q => q)).trans h.hD, (hm.block _ (Array.getElem?_eq_some_iff.1 h.hL).1 (fun q => q)).trans h.hL, Mod.trans h.mod hm⟩
/-- Where all lies. -/
structure TlP (w : World) (B M H vb D : Nat) (a : Option Addr) : Prop where
  b : B < w.heap.size
  m : M < w.heap.size
  h : H < w.heap.size
  v : w.heap.size + 3 ≤ vb
  d : vb < D
  x : ∀ x, a = some x → w.heap.size + 3 ≤ x.block ∧ x.block < D
theorem TlE.put {w : World} {B M H : Nat} {c : CrV} {t : Int} {vb : Nat} {a : Option Addr} {cap : Nat} {U : List ByteArray} {D : Nat} {lo lo' : Obj} {a' : Option Addr} {c' : Nat} {N : List ByteArray} {W : World} (h : TlE w B M H c t vb a cap U D lo a' c' N W) (p : TlP w B M H vb D a) : TlE w B M H c t vb a cap U D lo' a' c' N (W.putObj (D + 1) lo') := by
  obtain ⟨p1, p2, p3, p4, p5, p6⟩ := p
  have hM : Mod (fun k => k = D + 1) W (W.putObj (D + 1) lo') := Mod.putObj (Mod.refl _ _) _ _ (.inl rfl)
  refine ⟨Blk.putObj (by omega) h.r0, Blk.putObj (by omega) h.r1, Blk.putObj (by omega) h.r2, h.ns.ofBlock (fun x hx => ?_) hM.size, h.nb, h.cr.mod hM (by omega) (by omega) (by omega), Blk.putObj (by omega) h.vals, h.strs.ofBlock (fun x hx => ?_) hM.size, obz_put (by omega) h.hD, World.putObj_heap_same (Array.getElem?_eq_some_iff.1 h.hL).1, Mod.putObj h.mod _ _ (.inr (by omega))⟩
  · have := h.nb x hx
    exact World.putObj_heap_other (by omega)
  · have := p6 x hx
    exact World.putObj_heap_other (by omega)
/-- Behind the storing of another list of names. -/
theorem TlE.turn {w : World} {B M H : Nat} {c : CrV} {t : Int} {vb : Nat} {a : Option Addr} {cap : Nat} {U : List ByteArray} {D : Nat} {lo : Obj} {a' : Option Addr} {c' : Nat} {N : List ByteArray} {W W' : World} (h : TlE w B M H c t vb a cap U D lo a' c' N W) (p : TlP w B M H vb D a)
    (hm : Mod (fun k => k = w.heap.size + 2) W W') {a2 : Option Addr} {c2 : Nat} {N2 : List ByteArray} (hb : Blk W' (w.heap.size + 2) #[.int .i64 c.port, .slice a2 N2.length c2, .string c.cookie] 34) (hs : StrsAt W a2 c2 N2) (h2 : ∀ x, a2 = some x → D + 1 < x.block) (h3 : ∀ x, a2 = some x → x.block < W.heap.size) : TlE w B M H c t vb a cap U D lo a2 c2 N2 W' := by
  obtain ⟨p1, p2, p3, p4, p5, p6⟩ := p
  have hl := (Array.getElem?_eq_some_iff.1 h.hL).1
  refine ⟨hm.blk h.r0 (by omega), hm.blk h.r1 (by omega), hb, hs.ofBlock (fun x hx => ?_) hm.size, h2, h.cr.mod hm (by omega) (by omega) (by omega), hm.blk h.vals (by omega), h.strs.ofBlock (fun x hx => ?_) hm.size, (hm.block D (by omega) (by omega)).trans h.hD, (hm.block (D + 1) hl (by omega)).trans h.hL, h.mod.trans' hm (fun i hi q => by omega)⟩
  · have := h2 x hx
    exact hm.block _ (h3 x hx) (by omega)
  · have := p6 x hx
    exact hm.block _ (by omega) (by omega)
def TlInv (w : World) (B M H : Nat) (c : CrV) (t : Int) (vb : Nat) (a : Option Addr) (cap : Nat) (U : List ByteArray) (D : Nat) (lo : Obj) (T : List ByteArray) (a' : Option Addr) (c' : Nat) (N : List ByteArray) (W : World) : Prop :=
  N.Perm T ∧ (T = [] ∨ validM ⟨c.port, N, c.cookie⟩ = true) ∧ (∀ x ∈ T, dueT c.every (c.last x) ≤ t) ∧ (∃ rest, U = T ++ rest) ∧ TlE w B M H c t vb a cap U D lo a' c' N W
def TlGo (w : World) (B M H : Nat) (c : CrV) (t : Int) (vb : Nat) (a : Option Addr) (cap : Nat) (U : List ByteArray) (D : Nat) (rec : LoopState → Option Code → Loop) (T : List ByteArray) (W : World) : Prop :=
  ∃ a' c' N, TlInv w B M H c t vb a cap U D (.loop (rec .ready none)) T a' c' N W
def TlStop (w : World) (B M H : Nat) (c : CrV) (t : Int) (vb : Nat) (a : Option Addr) (cap : Nat) (U : List ByteArray) (D : Nat) (rec : LoopState → Option Code → Loop) (W : World) : Prop :=
  ∃ T s rest a' c' N, U = T ++ s :: rest ∧ (t < dueT c.every (c.last s) ∨ validM ⟨c.port, sortB (N ++ [s]), c.cookie⟩ = false) ∧ TlInv w B M H c t vb a cap U D (.loop (rec .done (some (.exit 0)))) T a' c' N W
theorem cell_off {w : World} {p q : Addr} {u v : Value} (h : q.block ≠ p.block) (hc : w.cell? q = some v) : (w.setCell p u).cell? q = some v := by
  rw [World.cell?_setCell_other _ _ _ _ (fun e => h (by rw [e]))]
  exact hc
/-- The loop has come to its end, or a round has left it by the block's end: the same goes on. -/
theorem rangeEnd_both {F : Fence} {n : Nat} {P : Program} {Q : Exit → Act → World → Prop} {a' : Act} {l D b : Nat} {rec : LoopState → Option Code → Loop} {e : Ending} {W : World} {st : Loop} (hv : ∃ v, e = .returned v) (hD : W.heap[D]? = some (.deferred (some [])))
    (hl : W.heap[l]? = some (.loop st)) (hst : st = rec .ready none ∨ st = rec .done (some (.exit b))) (hQ : ∀ a w, Q .normal a w → Q (.exit b) a w) (h : ∀ lo, Q .normal a' (W.putObj l (.loop lo))) : RangeEnd F n P Q a' l D rec e W := by
  refine ⟨hv, hD, ?_⟩
  rcases hst with rfl | rfl
  · exact .inl ⟨hl, h _⟩
  · exact .inr ⟨_, hl, wpIn_exit (hQ _ _ (h _))⟩
def CrV.tellC (c : CrV) (t : Int) (N : List ByteArray) : CrV := { c with now := t, sent := t, last := N.foldl (fun f x => upd f x t) c.last }
/-- What is asked behind Tell, in time. -/
def TellPost (w : World) (B M H : Nat) (c : CrV) (t : Int) (e : Ending) (w' : World) : Prop :=
  ∃ U T rest N, U = T ++ rest ∧ U.Perm c.all ∧ U.Pairwise (NamesP c.last) ∧ N.Perm T ∧ (T = [] ∨ validM ⟨c.port, N, c.cookie⟩ = true) ∧ (∀ x ∈ T, dueT c.every (c.last x) ≤ t) ∧
    (∀ s r2, rest = s :: r2 → t < dueT c.every (c.last s) ∨ validM ⟨c.port, sortB (N ++ [s]), c.cookie⟩ = false) ∧
    (((T = [] ∨ (0 ≤ c.sent ∧ t < c.sent + 1000)) ∧ e = .returned (.tuple #[.string ⟨#[]⟩, .int .i64 8]) ∧ New w w') ∨
     (T ≠ [] ∧ ¬ (0 ≤ c.sent ∧ t < c.sent + 1000) ∧ e = .returned (.tuple #[.string (mkB (writtenL ⟨c.port, N, c.cookie⟩)), .int .i64 0]) ∧ CrAt w' B M H (c.tellC t N) ∧ Mod (fun k => k = B ∨ k = M) w w'))
set_option maxRecDepth 100000 in
set_option maxHeartbeats 4000000 in
theorem cTell_late (B M H : Nat) (c : CrV) (t : Int) (w : World) (h : CrAt w B M H c) (hno : c.atE t ≠ 0) :
    Calls Tryz.prog 10 #[.pointer (some ⟨B, 0, none⟩), .int .i64 t] w fun e w' => e = .returned (.tuple #[.string ⟨#[]⟩, .int .i64 (c.atE t)]) ∧ New w w' := by
  have HAT := hid (fun W (n : New w W) => crAt_any B M H c t W (h.new n))
  obtain ⟨E, hE⟩ : ∃ E, E = c.atE t := ⟨_, rfl⟩
  rw [← hE] at HAT hno ⊢
  have e1 : (E == 0) = false := by rw [beq_eq_false_iff_ne]; exact hno
  have e2 : (E != 0) = true := by rw [bne, e1]; rfl
  clear h hno hE
  refine (callsIn_wide (n := 9)).1 ?_
  refine callsIn_of_wp_marks Tryz.func10 rfl trivial ?_ rfl
  simp only [Tryz.ntmps10, List.size_toArray, List.length_cons, List.length_nil, Nat.reduceAdd, Nat.reduceSub, Array.replicate_succ, Array.replicate_zero, List.push_toArray, List.append_toArray, List.nil_append, List.cons_append]
  gi_wp2_with fail
  refine name_worldC (p := fun W => Code.wpIn _ _ _ _ _ _ W) (fun W0 hW0 => ?_)
  have hs0 : W0.heap.size = w.heap.size + 2 := by rw [hW0]; simp
  have k0 : Blk W0 w.heap.size #[.pointer (some ⟨B, 0, none⟩)] 24 := by rw [hW0]; exact (Blk.new _ _ _).alloc _
  have k1 : Blk W0 (w.heap.size + 1) #[.int .i64 t] 3 := by rw [hW0]; exact Blk.newAt (by simp)
  have kn : New w W0 := by rw [hW0]; exact ((Mod.refl _ _).alloc _).alloc _
  clear hW0
  have K0 := hid k0; have K1 := hid k1; have KN := hid kn
  have q0 := k0.cellv 0 rfl; have q1 := k1.cellv 0 rfl
  have l0 := k0.lt; have l1 := k1.lt
  clear k0 k1 kn
  refine wp_region_wideP (fun w' => w'.cell? ⟨w.heap.size, 0, none⟩ = some (.pointer (some ⟨B, 0, none⟩)) ∧ w'.cell? ⟨w.heap.size + 1, 0, none⟩ = some (.int .i64 t)) (by kernel_rfl) ⟨q0, q1⟩ (fun hHeld => ?_)
  refine tk (v := ?_) 0 ?_ ?_
  rotate_left
  · intro w hSw
    (try dsimp only at hSw)
    first | (go_simp; done) | (go_simp; with_reducible rfl) | with_reducible rfl
  simp only [Act.put, List.setIfInBounds_toArray, List.set_cons_zero, List.set_cons_succ]
  refine tk (v := ?_) 1 ?_ ?_
  rotate_left
  · intro w hSw
    (try dsimp only at hSw)
    first | (go_simp; done) | (go_simp; with_reducible rfl) | with_reducible rfl
  simp only [Act.put, List.setIfInBounds_toArray, List.set_cons_zero, List.set_cons_succ]
  refine tk (v := ?_) 2 ?_ ?_
  rotate_left
  · intro w hSw
    (try dsimp only at hSw)
    first | (go_simp; done) | (go_simp; with_reducible rfl) | with_reducible rfl
  simp only [Act.put, List.setIfInBounds_toArray, List.set_cons_zero, List.set_cons_succ]
  refine tk (v := ?_) 3 ?_ ?_
  rotate_left
  · intro w hSw
    (try dsimp only at hSw)
    first | (go_simp; done) | (go_simp; with_reducible rfl) | with_reducible rfl
  simp only [Act.put, List.setIfInBounds_toArray, List.set_cons_zero, List.set_cons_succ]
  refine wpAnyH_ready (rs := [4]) (by kernel_rfl) (by simp) ?_
  refine AllReadyH.cons rfl (fun K hK => ?_) AllReadyH.nil
  go_simp
  (go_at_call 36; refine (HAT.out _ (KN.out.drew)).mono ?_; rintro e w4 ⟨rfl, rfl⟩)
  try dsimp only
  refine hK.out _ _ ⟨q0, q1⟩ (fun hHeld4 => ?_)
  clear hK K
  try simp only [Act.put, List.setIfInBounds_toArray, List.set_cons_zero, List.set_cons_succ]
  refine tk (v := ?_) 5 ?_ ?_
  rotate_left
  · intro w hSw
    (try dsimp only at hSw)
    first | (go_simp; done) | (go_simp; with_reducible rfl) | with_reducible rfl
  simp only [Act.put, List.setIfInBounds_toArray, List.set_cons_zero, List.set_cons_succ]
  refine wpAnyH_done (by kernel_rfl) (noPanic_ok ?_) _
  gi_wp2
  refine ⟨.tuple #[.string ⟨#[]⟩, .int .i64 E], ?_, rfl, KN.out.drew⟩
  simp [results, Tryz.results10, go_sem]
end Go.Proofs.YtnflhjagmngimaaGreatDoor
