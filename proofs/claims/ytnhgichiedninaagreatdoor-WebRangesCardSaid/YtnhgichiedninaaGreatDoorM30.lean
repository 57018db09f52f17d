/-
  Several texts in one, in their build order. The walks of the reference's Pieces, Spans and Size; Pieces of package files, whatever is asked. Conditions: the list lies as told; the library's table is as laid. The walk of run (package web): whether a run of pieces is one. Conditions: the list lies as told; the library's table is laid. A region that draws its order, within a round of a range over a function: the held orders of the plain walk serve there too. Over any program. Condition: none of its operations defers.
-/
import Derived.Test.YtnhgichiedninaaGreatDoorM27
import Derived.Test.YtnhgichiedninaaGreatDoorM29
import Derived.Test.YtnhgichiedninaaGreatDoorM24
import Derived.Test.YtnhgichiedninaaGreatDoorM18
import Derived.OrdersHeld
import Derived.OrdersIn
import Derived.Deep.RegionHeld
namespace Go.Proofs.YtnhgichiedninaaGreatDoor
set_option linter.unusedSimpArgs false
set_option linter.unusedVariables false
open Go.RowKit Go.Shelf

def piecesRes (l : List FileV) (piece : Int) (new : Bool) : Int := if wayErr l piece = 0 then piecesOf l piece new else 0
set_option maxRecDepth 100000 in
set_option maxHeartbeats 2000000 in
theorem Pieces_bad (a : Option Addr) (c : Nat) (l : List FileV) (piece : Int) (new : Bool) (w : World) (h : FilesAt w a c l) (ht : Tab w) (h0 : -9223372036854775808 ≤ piece) (h1 : piece ≤ 9223372036854775807) (hb : wayErr l piece ≠ 0) :
    Calls Tryz.prog 86 #[.slice a l.length c, .int .i64 piece, .bool new] w fun e w' => e = .returned (.tuple #[.int .i64 0, .int .i64 (wayErr l piece)]) ∧ New w w' := by
  have HWY := hid (ways_bad a c l piece new w h ht h0 h1 hb)
  have h3 : ((wayErr l piece) == 0) = false := by simpa using hb
  have h4 : ((wayErr l piece) != 0) = true := by simpa using hb
  clear h ht hb
  go_enter Tryz.func86, Tryz.ntmps86
  go_wp2_with (first | (go_at_call 128; refine HWY.out.mono ?_; rintro e w1 ⟨rfl, h1⟩; have H1 := hid h1; clear h1))
  go_ret2
  exact ⟨rfl, H1.out⟩
theorem Pieces_any (a : Option Addr) (c : Nat) (l : List FileV) (piece : Int) (new : Bool) (w : World) (h : FilesAt w a c l) (ht : Tab w) (h0 : -9223372036854775808 ≤ piece) (h1 : piece ≤ 9223372036854775807) :
    Calls Tryz.prog 86 #[.slice a l.length c, .int .i64 piece, .bool new] w fun e w' => e = .returned (.tuple #[.int .i64 (piecesRes l piece new), .int .i64 (wayErr l piece)]) ∧ New w w' := by
  by_cases hb : wayErr l piece = 0
  · have e : piecesRes l piece new = piecesOf l piece new := by simp [piecesRes, hb]
    rw [e]
    have := Pieces_ok a c l piece new w h ht h0 h1 hb
    rw [hb]
    exact this
  · have e : piecesRes l piece new = 0 := by simp [piecesRes, hb]
    rw [e]
    exact Pieces_bad a c l piece new w h ht h0 h1 hb

theorem cut_length {l : List FileV} {piece : Int} (new : Bool) (hb : wayErr l piece = 0) : ((cutOf l piece new).length : Int) = piecesOf l piece new := by
  obtain ⟨hv, hp⟩ := way_ok hb
  obtain ⟨v1, v2, v3, v4⟩ := valid_facts hv
  obtain ⟨p1, p2⟩ := piece_range hp
  have := (pieces_le (new := new) hb).1
  rw [cut_is new (by omega) v3]
  simp
  omega
theorem cut_at {l : List FileV} {piece : Int} {new : Bool} (hb : wayErr l piece = 0) {i : Nat} (hi : (i : Int) < piecesOf l piece new) : (cutOf l piece new)[i]? = some (spansOf l piece new i) := by
  obtain ⟨hv, hp⟩ := way_ok hb
  obtain ⟨v1, v2, v3, v4⟩ := valid_facts hv
  obtain ⟨p1, p2⟩ := piece_range hp
  rw [cut_is new (by omega) v3]
  rw [List.getElem?_map, List.getElem?_range (by omega)]
  rfl
theorem OwnSS.rows {w : World} {base : Nat} {v : Value} {out : List (List SpanV)} {vs : List Value} (h : OwnSS w base v out vs) : ∃ a c, v = .slice a out.length c ∧ out.length ≤ c ∧ c ≤ maxLen ∧ (out = [] ∨ ∃ g, a = some ⟨g, 0, none⟩ ∧ g < w.heap.size ∧ ∀ (i : Nat) (hi : i < out.length), ∃ ra rc, w.cell? ⟨g, i, none⟩ = some (.slice ra out[i].length rc) ∧ SpansAt w ra rc out[i]) := by
  rcases h.row.2 with ⟨rfl, hn⟩ | ⟨g, cap, cur, rfl, hbg, hg, hnc, hcm, hcs, htake⟩
  · have : out = [] := List.eq_nil_of_length_eq_zero hn
    subst this
    exact ⟨none, 0, rfl, by simp, by simp [maxLen], .inl rfl⟩
  · refine ⟨some ⟨g, 0, none⟩, cap, rfl, hnc, hcm, .inr ⟨g, rfl, (Array.getElem?_eq_some_iff.1 hg).1, fun i hi => ?_⟩⟩
    have hlen := h.len
    have hu := List.getElem?_eq_getElem (l := vs) (i := i) (by omega)
    obtain ⟨ra, rc, e, hs⟩ := (h.each i _ _ (List.getElem?_eq_getElem hi) hu).spans
    refine ⟨ra, rc, ?_, hs⟩
    rw [World.ownsRow.cellAt h.row i (by omega), hu, e]
set_option maxRecDepth 100000 in
set_option maxHeartbeats 2000000 in
theorem rPieces_any (a : Option Addr) (c : Nat) (l : List FileV) (piece : Int) (new : Bool) (w : World) (h : FilesAt w a c l) (h0 : -9223372036854775808 ≤ piece) (h1 : piece ≤ 9223372036854775807) :
    Calls Tryz.prog 62 #[.slice a l.length c, .int .i64 piece, .bool new] w fun e w' => e = .returned (.tuple #[.int .i64 (piecesRes l piece new), .int .i64 (wayErr l piece)]) ∧ New w w' := by
  have HC := hid (rcheck_any a c l piece w h h0 h1)
  by_cases hb : wayErr l piece = 0
  · have e : piecesRes l piece new = piecesOf l piece new := by simp [piecesRes, hb]
    rw [e]
    obtain ⟨hv, hp⟩ := way_ok hb
    obtain ⟨v1, v2, v3, v4⟩ := valid_facts hv
    obtain ⟨p1, p2⟩ := piece_range hp
    have HCU := hid (fun W (n : New w W) => cut_any a c l piece new W (h.new n) v2 v3 v4 p1 p2)
    have HLN := hid (cut_length new hb)
    have hle := pieces_le (new := new) hb
    rw [hb] at HC ⊢
    obtain ⟨pn, hpn⟩ : ∃ pn, pn = piecesOf l piece new := ⟨_, rfl⟩
    rw [← hpn] at HLN hle ⊢
    clear h hv hp hb v1 v2 v3 v4 e hpn
    go_enter Tryz.func62, Tryz.ntmps62
    go_wp2_with fail
    refine HC.out.mono ?_
    rintro e w1 ⟨rfl, n1⟩
    have N1 := hid n1
    clear n1
    go_wp2_with fail
    refine (HCU.out _ N1.out).mono ?_
    rintro e w2 ⟨v, vs, rfl, hO, n2⟩
    obtain ⟨ra, rc, rfl, -⟩ := hO.rows
    have N2 := hid n2
    have hl := HLN.out
    obtain ⟨m, hm⟩ : ∃ m, m = (cutOf l piece new).length := ⟨_, rfl⟩
    rw [← hm] at hl ⊢
    subst hl
    clear n2 hO hm
    go_wp2
    go_ret2
    exact ⟨rfl, N1.out.trans N2.out⟩
  · have e : piecesRes l piece new = 0 := by simp [piecesRes, hb]
    rw [e]
    have h3 : ((wayErr l piece) == 0) = false := by simpa using hb
    have h4 : ((wayErr l piece) != 0) = true := by simpa using hb
    clear h e hb
    go_enter Tryz.func62, Tryz.ntmps62
    go_wp2_with fail
    refine HC.out.mono ?_
    rintro e w1 ⟨rfl, n1⟩
    have N1 := hid n1
    clear n1
    go_wp2
    go_ret2
    exact ⟨rfl, N1.out⟩
set_option maxRecDepth 100000 in
set_option maxHeartbeats 2000000 in
theorem rSpans_any (a : Option Addr) (c : Nat) (l : List FileV) (piece i : Int) (new : Bool) (w : World) (h : FilesAt w a c l) (h0 : -9223372036854775808 ≤ piece) (h1 : piece ≤ 9223372036854775807) :
    Calls Tryz.prog 27 #[.slice a l.length c, .int .i64 piece, .bool new, .int .i64 i] w fun e w' => ∃ a' c', e = .returned (.tuple #[.slice a' (spansRes l piece new i).length c', .int .i64 (spansErr l piece new i)]) ∧ SpansAt w' a' c' (spansRes l piece new i) ∧ New w w' := by
  have HC := hid (rcheck_any a c l piece w h h0 h1)
  by_cases hb : wayErr l piece = 0
  · obtain ⟨hv, hp⟩ := way_ok hb
    obtain ⟨v1, v2, v3, v4⟩ := valid_facts hv
    obtain ⟨p1, p2⟩ := piece_range hp
    have HCU := hid (fun W (n : New w W) => cut_any a c l piece new W (h.new n) v2 v3 v4 p1 p2)
    have hln := cut_length new hb
    have hle := pieces_le (new := new) hb
    by_cases hi : i < 0 ∨ piecesOf l piece new ≤ i
    · have e : spansErr l piece new i = 7 := by simp only [spansErr, hb, if_true, hi]
      have e2 : spansRes l piece new i = [] := by simp [spansRes, e]
      rw [e2, e]
      rw [hb] at HC
      rw [← hln] at hle hi
      obtain ⟨R, hR⟩ : ∃ R, R = cutOf l piece new := ⟨_, rfl⟩
      rw [← hR] at hle hi HCU
      clear h hv hp hb v1 v2 v3 v4 e e2 hln hR
      have hR := hid hi
      clear hi
      by_cases hi0 : i < 0
      · go_enter Tryz.func27, Tryz.ntmps27
        go_wp2_with fail
        refine HC.out.mono ?_
        rintro e w1 ⟨rfl, n1⟩
        have N1 := hid n1
        clear n1
        go_wp2_with fail
        refine (HCU.out _ N1.out).mono ?_
        rintro e w2 ⟨v, vs, rfl, hO, n2⟩
        obtain ⟨ra, rc, rfl, -⟩ := hO.rows
        have N2 := hid (N1.out.trans n2)
        clear n2 hO
        go_wp2
        go_ret2
        exact ⟨none, 0, rfl, SpansAt.nil _, N2.out⟩
      · have hi1 : (R.length : Int) ≤ i := hR.out.resolve_left hi0
        go_enter Tryz.func27, Tryz.ntmps27
        go_wp2_with fail
        refine HC.out.mono ?_
        rintro e w1 ⟨rfl, n1⟩
        have N1 := hid n1
        clear n1
        go_wp2_with fail
        refine (HCU.out _ N1.out).mono ?_
        rintro e w2 ⟨v, vs, rfl, hO, n2⟩
        obtain ⟨ra, rc, rfl, -⟩ := hO.rows
        have N2 := hid (N1.out.trans n2)
        clear n2 hO
        go_wp2
        go_ret2
        exact ⟨none, 0, rfl, SpansAt.nil _, N2.out⟩
    · have e : spansErr l piece new i = 0 := by simp only [spansErr, hb, if_true, hi, if_false]
      have e2 : spansRes l piece new i = spansOf l piece new i := by simp [spansRes, e]
      rw [e2, e]
      obtain ⟨j, rfl⟩ := Int.eq_ofNat_of_zero_le (show 0 ≤ i by omega)
      have hat := cut_at (new := new) hb (i := j) (by omega)
      rw [hb] at HC
      have hj : j < (cutOf l piece new).length := by omega
      rw [List.getElem?_eq_getElem hj] at hat
      obtain ⟨R, hR⟩ : ∃ R, R = cutOf l piece new := ⟨_, rfl⟩
      have hle2 : (R.length : Int) ≤ 70000 := by rw [hR]; omega
      rw [← hR] at HCU
      simp only [← hR] at hat hj
      have hS : R[j] = spansOf l piece new j := Option.some.inj hat
      obtain ⟨S, hSS⟩ : ∃ S, S = spansOf l piece new j := ⟨_, rfl⟩
      rw [← hSS] at hS ⊢
      have HRS := hid hS
      clear h hv hp hb v1 v2 v3 v4 e e2 hln hR hle hat hi hS hSS
      have hjI : ((j : Int)) < (R.length : Int) := by omega
      go_enter Tryz.func27, Tryz.ntmps27
      go_wp2_with fail
      refine HC.out.mono ?_
      rintro e w1 ⟨rfl, n1⟩
      have N1 := hid n1
      clear n1
      go_wp2_with fail
      refine (HCU.out _ N1.out).mono ?_
      rintro e w2 ⟨v, vs, rfl, hO, n2⟩
      obtain ⟨ra, rc, rfl, hr1, hr2, hr3⟩ := hO.rows
      unfold maxLen at hr2
      rcases hr3 with hr3 | ⟨g, rfl, hg, hrow⟩
      · subst hr3; simp at hj
      obtain ⟨sa, sc, hc0, hsp⟩ := hrow j hj
      have N2 := hid (N1.out.trans n2)
      rw [HRS.out] at hc0 hsp
      have HSP := hid hsp
      clear n2 hO hrow hsp
      go_wp2
      go_ret2
      exact ⟨sa, sc, rfl, HSP.out, N2.out⟩
  · have e : spansErr l piece new i = wayErr l piece := by simp [spansErr, hb]
    have e2 : spansRes l piece new i = [] := by simp [spansRes, e, hb]
    rw [e2, e]
    have h3 : ((wayErr l piece) == 0) = false := by simpa using hb
    have h4 : ((wayErr l piece) != 0) = true := by simpa using hb
    clear h e e2 hb
    go_enter Tryz.func27, Tryz.ntmps27
    go_wp2_with fail
    refine HC.out.mono ?_
    rintro e w1 ⟨rfl, n1⟩
    have N1 := hid n1
    clear n1
    go_wp2
    go_ret2
    exact ⟨none, 0, rfl, SpansAt.nil _, N1.out⟩
end Go.Proofs.YtnhgichiedninaaGreatDoor

namespace Go.Proofs.YtnhgichiedninaaGreatDoor
set_option linter.unusedSimpArgs false
set_option linter.unusedVariables false
open Go.RowKit

def runErr (l : List FileV) (piece : Int) (new : Bool) (fr cn : Int) : Int :=
  if wayErr l piece ≠ 0 then wayErr l piece else if fr < 0 ∨ cn < 1 ∨ piecesOf l piece new < cn ∨ piecesOf l piece new - cn < fr then 7 else 0
theorem runErr_ok {l : List FileV} {piece : Int} {new : Bool} {fr cn : Int} (h : runErr l piece new fr cn = 0) : wayErr l piece = 0 ∧ 0 ≤ fr ∧ 1 ≤ cn ∧ fr + cn ≤ piecesOf l piece new := by
  unfold runErr at h
  split at h
  · next q => exact absurd h q
  · next q =>
    split at h
    · cases h
    · exact ⟨Decidable.not_not.1 q, by omega, by omega, by omega⟩
set_option maxRecDepth 100000 in
set_option maxHeartbeats 2000000 in
theorem run_any (a : Option Addr) (c : Nat) (l : List FileV) (piece : Int) (new : Bool) (fr cn : Int) (w : World) (h : FilesAt w a c l) (ht : Tab w) (h0 : -9223372036854775808 ≤ piece ∧ piece ≤ 9223372036854775807) (f0 : -9223372036854775808 ≤ fr ∧ fr ≤ 9223372036854775807) (c0 : -9223372036854775808 ≤ cn ∧ cn ≤ 9223372036854775807) :
    Calls Tryz.prog 58 #[.slice a l.length c, .int .i64 piece, .bool new, .agg #[.int .i64 fr, .int .i64 cn]] w fun e w' => e = .returned (.int .i64 (runErr l piece new fr cn)) ∧ New w w' := by
  have HPC := hid (fun W (n : New w W) => Pieces_any a c l piece new W (h.new n) (ht.new n) h0.1 h0.2)
  obtain ⟨R, hR⟩ : ∃ R, R = runErr l piece new fr cn := ⟨_, rfl⟩
  rw [← hR]
  unfold runErr at hR
  have hpp := fun (q : wayErr l piece = 0) => pieces_le (new := new) q
  have hpr : wayErr l piece = 0 → piecesRes l piece new = piecesOf l piece new := fun q => by simp [piecesRes, q]
  obtain ⟨E, hE⟩ : ∃ E, E = wayErr l piece := ⟨_, rfl⟩
  obtain ⟨N, hN⟩ : ∃ N, N = piecesRes l piece new := ⟨_, rfl⟩
  rw [← hE, ← hN] at HPC
  rw [← hE] at hR hpp hpr
  rw [← hN] at hpr
  have HR := hid hR
  obtain ⟨f1, f2⟩ := f0
  obtain ⟨c1, c2⟩ := c0
  clear h ht h0 hE hN hR
  have HB := hid (Blk.new w #[.int .i64 fr, .int .i64 cn] 34)
  by_cases hz : E = 0
  · rw [hpr hz] at HPC
    have HP := hid (hpp hz)
    obtain ⟨P, hP⟩ : ∃ P, P = piecesOf l piece new := ⟨_, rfl⟩
    rw [← hP] at HPC HP HR
    obtain ⟨p0, p1⟩ := HP.out
    have hzI : (E != 0) = false := by rw [bne_eq_false_iff_eq]; exact hz
    have HZ := hid (show ¬ E ≠ 0 from fun q => q hz)
    subst hz
    clear hpp hpr hP
    go_enter Tryz.func58, Tryz.ntmps58
    go_wp2_with fail
    refine (HPC.out _ ((Mod.refl _ _).alloc _)).mono ?_
    rintro e w1 ⟨rfl, n1⟩
    have N1 : Hid (New w w1) := hid (((Mod.refl _ w).alloc (.cells #[.int .i64 fr, .int .i64 cn] 34) : New w _).trans n1)
    have B1 := hid (New.blk n1 HB.out)
    clear n1
    have d0 := B1.out.cellv 0 rfl; have d1 := B1.out.cellv 1 rfl; have dl := B1.out.lt
    by_cases q1 : fr < 0
    · go_wp2
      go_ret
      exact ⟨ret_int (by rw [HR.out, if_neg HZ.out, if_pos (.inl q1)]), N1.out⟩
    by_cases q2 : cn < 1
    · go_wp2
      go_ret
      exact ⟨ret_int (by rw [HR.out, if_neg HZ.out, if_pos (.inr (.inl q2))]), N1.out⟩
    by_cases q3 : P < cn
    · go_wp2
      go_ret
      exact ⟨ret_int (by rw [HR.out, if_neg HZ.out, if_pos (.inr (.inr (.inl q3)))]), N1.out⟩
    by_cases q4 : P - cn < fr
    · go_wp2
      go_ret
      exact ⟨ret_int (by rw [HR.out, if_neg HZ.out, if_pos (.inr (.inr (.inr q4)))]), N1.out⟩
    go_wp2
    go_ret
    exact ⟨ret_int (by rw [HR.out, if_neg HZ.out, if_neg (by omega)]), N1.out⟩
  · have hzI : (E != 0) = true := by rw [bne_iff_ne]; exact hz
    have HZ := hid hz
    clear hz hpp hpr
    go_enter Tryz.func58, Tryz.ntmps58
    go_wp2_with fail
    refine (HPC.out _ ((Mod.refl _ _).alloc _)).mono ?_
    rintro e w1 ⟨rfl, n1⟩
    have N1 : Hid (New w w1) := hid (((Mod.refl _ w).alloc (.cells #[.int .i64 fr, .int .i64 cn] 34) : New w _).trans n1)
    clear n1
    go_wp2
    go_ret
    exact ⟨ret_int (by rw [HR.out, if_pos HZ.out]), N1.out⟩
end Go.Proofs.YtnhgichiedninaaGreatDoor

namespace Go.Proofs.YtnhgichiedninaaGreatDoor
set_option linter.unusedSimpArgs false
set_option linter.unusedVariables false
open Go.RowKit

theorem rows_wide {n : Nat} {P : Program} {row : String} {args : Array Value} {w : World} {R : Value → World → Prop} (h : Rows P row args w R) : RowsIn Fence.wide n P row args w R :=
  fun c cs _ => let ⟨v, w', r, s⟩ := h c cs; ⟨v, w', r, stepsIn_wide.2 s⟩
theorem wpOp_round {l n : Nat} {P : Program} {ops : Array Oper} {Q : Exit → Act → World → Prop} {i : Nat} {K : Act → World → Prop} {a : Act} {w : World} (hnd : ∀ (j : Nat) o c, ops[j]? = some o → o.op ≠ .defer c) (hno : ¬ LetsOut Q)
    (h : wpOp P ops Q i K a w) : wpOpIn (Fence.wide.inRound l) n P ops Q i K a w := by
  unfold wpOp at h
  unfold wpOpIn
  cases ho : ops[i]? with
  | none => rw [ho] at h; exact h
  | some o =>
    rw [ho] at h
    simp only at h ⊢
    by_cases hw : Region.wanted o (yielded ops a.tmps) = true
    · rw [if_pos hw] at h ⊢
      rcases h with h | ⟨-, h⟩
      · unfold Oper.wp at h
        unfold Oper.wpIn
        refine ⟨fun _ _ => trivial, ?_⟩
        rw [Oper.semAt_eq _ _ _ (fun c => hnd i o c ho)]
        generalize (execOp a.eval o).run P w = r at *
        cases r with
        | ok x w' =>
          cases x <;> simp only [Oper.upon, Oper.uponIn] at h ⊢
          all_goals first
            | exact h
            | exact ⟨fun q => (by simp [Fence.wide] at q), CallsIn.inRound l (callsIn_wide.2 h)⟩
            | exact ⟨fun q => (by simp [Fence.wide] at q), rows_wide h⟩
            | exact h.elim
        | halt x w' => cases x <;> simp only [Oper.upon, Oper.uponIn] at h ⊢ <;> exact h
      · exact absurd h hno
    · rw [if_neg hw] at h ⊢
      exact ⟨fun _ _ => trivial, h⟩
theorem wpAny_round {l n : Nat} {P : Program} {ops : Array Oper} {md : Region.Mode} {Q : Exit → Act → World → Prop} (hnd : ∀ (j : Nat) o c, ops[j]? = some o → o.op ≠ .defer c) (hno : ¬ LetsOut Q) :
    ∀ (fuel : Nat) (listed : Array Bool) (a : Act) (w : World), wpAny P md ops Q fuel listed a w → wpAnyIn (Fence.wide.inRound l) n P md ops Q fuel listed a w
  | 0, _, _, _, h => h
  | fuel + 1, listed, a, w, h => ⟨h.1, fun i hi => wpOpIn_mono (fun a w q => wpAny_round hnd hno fuel _ a w q) (wpOp_round hnd hno (h.2 i hi))⟩
theorem wp_region_round {l n id : Nat} {P : Program} {ops : Array Oper} {Q : Exit → Act → World → Prop} {a : Act} {w : World} (S : World → Prop) (hm : P.follows .mixedOrders = true) (hnd : ∀ (j : Nat) o c, ops[j]? = some o → o.op ≠ .defer c) (hno : ¬ LetsOut Q) (hS : S w.drew)
    (h : S w.drew → wpAnyH P .any ops Q S ops.size (Array.replicate ops.size false) a w.drew) : (Code.region id ops true).wpIn (Fence.wide.inRound l) n P Q a w :=
  wpIn_region_any hm (wpAny_round hnd hno _ _ _ _ (wpAny_of_held _ _ _ _ (h hS)))
/-- None of the operations defers. -/
def noDefer (ops : Array Oper) : Bool := ops.all fun o => match o.op with | .defer _ => false | _ => true
theorem noDefer_spec {ops : Array Oper} (h : noDefer ops = true) : ∀ (j : Nat) o c, ops[j]? = some o → o.op ≠ .defer c := by
  intro j o c hj q
  have := Array.all_eq_true_iff_forall_mem.1 h o (Array.mem_of_getElem? hj)
  rw [q] at this
  simp at this
end Go.Proofs.YtnhgichiedninaaGreatDoor
