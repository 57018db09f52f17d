/-
  Several texts in one, in their build order. The walk of Text (package bits). Conditions: the field is right; the library's variables are as laid. The walk of Parse (package bits). Conditions: at most 4096 bits; the text is small; the library's variables are as laid.
-/
import Derived.Test.YtbgmkplpolgebaaGreatDoorM20
namespace Go.Proofs.YtbgmkplpolgebaaGreatDoor
set_option linter.unusedSimpArgs false
set_option linter.unusedVariables false
open Go.RowKit Go.Shelf

theorem joinTail_len (c : UInt8) (M : Nat) : ∀ (L : List (List UInt8)), (∀ x ∈ L, x.length ≤ M) → (Lib.joinTail [c] L).length ≤ L.length * (M + 1)
  | [], _ => by simp [Lib.joinTail]
  | x :: L, h => by
    have h1 := joinTail_len c M L (fun y hy => h y (by simp [hy]))
    have h2 := h x (by simp)
    have e : Lib.joinTail [c] (x :: L) = c :: (x ++ Lib.joinTail [c] L) := by simp [Lib.joinTail]
    rw [e, List.length_cons, List.length_append, List.length_cons, Nat.add_mul]
    omega
theorem join_len (c : UInt8) (M : Nat) (L : List (List UInt8)) (h : ∀ x ∈ L, x.length ≤ M) : (Lib.join L [c]).length ≤ L.length * (M + 1) := by
  cases L with
  | nil => simp [Lib.join]
  | cons x L =>
    rw [Lib.join_cons, List.length_append, List.length_cons, Nat.add_mul]
    have h1 := joinTail_len c M L (fun y hy => h y (by simp [hy]))
    have h2 := h x (by simp)
    omega
theorem join_c (c : UInt8) (a : Option Addr) (d : Nat) (p : List ByteArray) (w : World) (h : StrsAt w a d p) (hl : p.length ≤ 100000) (hb : ∀ x ∈ p, x.size ≤ 100000) :
    Calls Tryz.prog 56 #[.slice a p.length d, .string ⟨#[c]⟩] w fun e w' => e = .returned (.string (mkB (Lib.join (p.map (·.data.toList)) [c]))) ∧ New w w' := by
  have hb' : (Lib.join (p.map (·.data.toList)) [c]).length ≤ 140737488355328 := by
    have := join_len c 100000 (p.map (·.data.toList)) (fun x hx => by
      obtain ⟨y, hy, rfl⟩ := List.mem_map.1 hx
      have h1 := hb y hy
      have h2 : y.data.toList.length = y.size := by rw [Array.length_toList]; rfl
      omega)
    rw [List.length_map] at this
    have h3 : p.length * (100000 + 1) ≤ 100000 * (100000 + 1) := Nat.mul_le_mul_right _ hl
    omega
  rcases h.at' with rfl | ⟨b, o, rfl, hlt, hc⟩
  · refine (Tryz.strings_Join_none a d _ w).mono ?_
    rintro e w' ⟨rfl, rfl⟩
    exact ⟨rfl, Mod.refl _ _⟩
  · refine (Tryz.strings_Join b o d p ⟨#[c]⟩ w hc hlt (by omega) h.room hb').mono ?_
    rintro e w' ⟨rfl, hn⟩
    exact ⟨rfl, New.of_below hn⟩
def pieceB (r : Int × Int) : ByteArray := mkB (pieceT r)
theorem pieceB_one {r : Int × Int} (h : ¬ 1 < r.2) : itoaB r.1 = pieceB r := by
  unfold pieceB pieceT
  rw [if_neg h, List.append_nil]
  rfl
theorem pieceB_two {r : Int × Int} (h : 1 < r.2) : itoaB r.1 ++ (⟨#[45]⟩ ++ itoaB (r.1 + r.2 - 1)) = pieceB r := by
  unfold pieceB pieceT
  rw [if_pos h]
  apply bytes_ext
  simp [mkB, itoaB]
theorem piece_size {r : Int × Int} (h0 : 0 ≤ r.1) (h1 : r.1 + r.2 ≤ 4097) (h2 : 1 ≤ r.2) : (pieceB r).size ≤ 43 := by
  have e : (pieceB r).size = (pieceT r).length := size_list _
  rw [e]
  unfold pieceT
  have a1 := Lib.itoa_length_le r.1 (by omega) (by omega)
  have a2 := Lib.itoa_length_le (r.1 + r.2 - 1) (by omega) (by omega)
  rw [List.length_append]
  split <;> simp <;> omega
theorem txt_join (U : List (Int × Int)) : mkB (Lib.join ((U.map pieceB).map (·.data.toList)) [44]) = mkB (txtR U) := by
  unfold txtR
  rw [List.map_map]
  rfl
set_option maxRecDepth 100000 in
set_option maxHeartbeats 8000000 in
theorem bText_any (n : Nat) (s : ByteArray) (w : World) (h : FieldOf n s.data.toList) (hn : n ≤ 4096) (hv : VarP w) :
    Calls Tryz.prog 55 #[.int .i64 n, .string s] w fun e w' => e = .returned (.tuple #[.string (mkB (txtR (runsF n s.data.toList))), .int .i64 0]) ∧ New w w' := by
  have HRU := hid (bRuns_any n s w h hn)
  have HV := hid (fun W (n : New w W) => hv.new n)
  have HG := runs_good (n := n) (numsL n s.data.toList) (fun i hi => numsL_lt hi)
  have hNL := numsL_le n s.data.toList
  obtain ⟨U, hU⟩ : ∃ U, U = runsF n s.data.toList := ⟨_, rfl⟩
  have hUG : (∀ r ∈ U, 0 ≤ r.1 ∧ 1 ≤ r.2 ∧ r.1 + r.2 ≤ n) ∧ U.length ≤ 4096 := by rw [hU]; exact ⟨HG.1, by have := HG.2; unfold runsF; omega⟩
  rw [← hU] at HRU ⊢
  have HUG := hid hUG.1
  have hUl := hUG.2
  obtain ⟨i1, hj, hy0, hy1, hy2⟩ := info_parts info_str
  clear hU HG hNL hUG h hv
  go_enter Tryz.func55, Tryz.ntmps55
  go_wp2_with fail
  refine HRU.out.mono ?_
  rintro e w1 ⟨v0, rfl, ho, n1⟩
  obtain ⟨a, c, rfl, hc1, hc2, hat⟩ := ho.runs
  unfold maxLen at hc2
  have N1 := hid n1
  have HAT := hid hat
  clear n1 ho hat HRU
  go_wp2
  go_loopw [20, 8] (fun i o wr => ∃ (k : Nat) (v : Value) (P : List ByteArray), i = .int .i64 k ∧ v = o ∧ k ≤ U.length ∧ P = (U.take k).map pieceB ∧ OwnT wr w1.heap.size v P ∧ New w1 wr) (fun i _ _ => U.length - (intOf i).toNat)
  case atStart => exact ⟨0, _, [], rfl, rfl, by omega, by simp, OwnT.nil _ _, Mod.refl _ _⟩
  case round =>
    obtain ⟨k, v, P, rfl, rfl, hk, hP, hO, hN⟩ := hrel
    have HP := hid hP; have HO := hid hO; have HN := hid hN
    have hPl : P.length = k := by rw [hP, List.length_map, List.length_take]; omega
    clear hP hO hN
    by_cases hlt : k < U.length
    · have hltI : (k : Int) < (U.length : Int) := by omega
      rcases HAT.out with hnil | ⟨bb, oo, rfl, hbb, hcc⟩
      · rw [hnil] at hlt; simp at hlt
      · obtain ⟨g0, g1⟩ := hcc k hlt
        have g0 := New.cellv HN.out g0
        have g1 := New.cellv HN.out g1
        have HTK := hid (lst_next hlt)
        obtain ⟨hr0, hr1, hr2⟩ := HUG.out _ (List.getElem_mem hlt)
        obtain ⟨r, hr⟩ : ∃ r, r = U[k] := ⟨_, rfl⟩
        rw [← hr] at g0 g1 HTK hr0 hr1 hr2
        clear hcc hr
        have HI1 := hid (fun W (q : New wr W) => itoa_any r.1 (by omega) (by omega) W (HV.out W ((N1.out.trans HN.out).trans q)).tab)
        have hs1 := itoa_size (n := r.1) (by omega) (by omega)
        by_cases h2 : 1 < r.2
        · have PB := hid (pieceB_two h2)
          have HI2 := hid (fun W (q : New wr W) => itoa_any (r.1 + r.2 - 1) (by omega) (by omega) W (HV.out W ((N1.out.trans HN.out).trans q)).tab)
          have hs2 := itoa_size (n := r.1 + r.2 - 1) (by omega) (by omega)
          have hw1 : IntKind.i64.wrap (r.1 + r.2) = r.1 + r.2 := by rw [IntKind.wrap_i64]; omega
          have hw2 : IntKind.i64.wrap (r.1 + r.2 - 1) = r.1 + r.2 - 1 := by rw [IntKind.wrap_i64]; omega
          go_wp2_with fail
          refine (HI1.out _ ((Mod.refl _ _).alloc _)).mono ?_
          rintro e w2 ⟨rfl, n2⟩
          have hb2 := n2.blk (Blk.new wr #[.int .i64 r.1, .int .i64 r.2] 66)
          have HB2 := hid hb2
          have x0 := hb2.cellv 0 rfl; have x1 := hb2.cellv 1 rfl; have xl := hb2.lt
          have N2 := hid (((Mod.refl (fun _ => False) wr).alloc (.cells #[.int .i64 r.1, .int .i64 r.2] 66)).trans n2)
          clear n2 hb2
          go_wp2_with fail
          refine (HI2.out _ N2.out).mono ?_
          rintro e w3 ⟨rfl, n3⟩
          have HO3 := hid (HO.out.new (N2.out.trans n3))
          have N3 := hid ((HN.out.trans N2.out).trans n3)
          clear n3 x0 x1 xl
          go_wp2_with (at_builtin; refine wpList_append_own_at _ rfl _ _ 23 rfl w1.heap.size 9 i1 _ 1 16 Tryz.underlying23 hj hy0 hy1 hy2 rfl (by decide) v P.length (P.map Value.string) rfl ?owA ⟨w3.heap.size, 0, none⟩ 1 1 [.string (itoaB r.1 ++ (⟨#[45]⟩ ++ itoaB (r.1 + r.2 - 1)))] rfl rfl ?hnA ?h1A ?h63A ?hbyA ?hbaA ?_)
          case owA => exact HO3.out.new ((Mod.refl _ _).alloc _)
          case hnA =>
            intro j u hj
            rw [add_none]
            match j, hj with
            | 0, hj => simp at hj; subst hj; exact (Blk.newAt (by simp)).cellv 0 rfl
          case h1A => intro u hu; simp at hu; subst hu; rfl
          case h63A => unfold maxLen; omega
          case hbyA => omega
          case hbaA => have := N3.out.size; simp at *; omega
          intro o3 w4 r3 g3 _ _
          have O3 : Hid (OwnT w4 w1.heap.size o3 (P ++ [pieceB r])) := hid (own_pushT r3 (by omega) (by rw [PB.out]))
          have N4 : Hid (New w1 w4) := hid (newGrown (N3.out.alloc _) g3 (fun j hj => (World.ownsRow.lt HO3.out j hj).1))
          clear r3 g3
          go_wp2
          exact ⟨⟨k + 1, _, P ++ [pieceB r], by simp, rfl, by omega, by rw [HTK.out, List.map_append, ← HP.out]; rfl, O3.out, N4.out⟩, by simp [intOf]; omega⟩
        · have PB := hid (pieceB_one h2)
          go_wp2_with fail
          refine (HI1.out _ ((Mod.refl _ _).alloc _)).mono ?_
          rintro e w3 ⟨rfl, n2⟩
          have hb2 := n2.blk (Blk.new wr #[.int .i64 r.1, .int .i64 r.2] 66)
          have x0 := hb2.cellv 0 rfl; have x1 := hb2.cellv 1 rfl; have xl := hb2.lt
          have N2 := hid (((Mod.refl (fun _ => False) wr).alloc (.cells #[.int .i64 r.1, .int .i64 r.2] 66)).trans n2)
          have HO3 := hid (HO.out.new N2.out)
          have N3 := hid (HN.out.trans N2.out)
          clear n2 hb2
          go_wp2_with (at_builtin; refine wpList_append_own_at _ rfl _ _ 23 rfl w1.heap.size 9 i1 _ 1 16 Tryz.underlying23 hj hy0 hy1 hy2 rfl (by decide) v P.length (P.map Value.string) rfl ?owB ⟨w3.heap.size, 0, none⟩ 1 1 [.string (itoaB r.1)] rfl rfl ?hnB ?h1B ?h63B ?hbyB ?hbaB ?_)
          case owB => exact HO3.out.new ((Mod.refl _ _).alloc _)
          case hnB =>
            intro j u hj
            rw [add_none]
            match j, hj with
            | 0, hj => simp at hj; subst hj; exact (Blk.newAt (by simp)).cellv 0 rfl
          case h1B => intro u hu; simp at hu; subst hu; rfl
          case h63B => unfold maxLen; omega
          case hbyB => omega
          case hbaB => have := N3.out.size; simp at *; omega
          intro o3 w4 r3 g3 _ _
          have O3 : Hid (OwnT w4 w1.heap.size o3 (P ++ [pieceB r])) := hid (own_pushT r3 (by omega) (by rw [PB.out]))
          have N4 : Hid (New w1 w4) := hid (newGrown (N3.out.alloc _) g3 (fun j hj => (World.ownsRow.lt HO3.out j hj).1))
          clear r3 g3
          go_wp2
          exact ⟨⟨k + 1, _, P ++ [pieceB r], by simp, rfl, by omega, by rw [HTK.out, List.map_append, ← HP.out]; rfl, O3.out, N4.out⟩, by simp [intOf]; omega⟩
    · obtain rfl : k = U.length := by omega
      have hP := HP.out
      rw [List.take_length] at hP
      have hsz : ∀ x ∈ P, x.size ≤ 43 := by
        intro x hx
        rw [hP] at hx
        obtain ⟨r, hr, rfl⟩ := List.mem_map.1 hx
        obtain ⟨q0, q1, q2⟩ := HUG.out r hr
        exact piece_size q0 (by omega) q1
      obtain ⟨aa, dd, rfl, hst, -⟩ := owns_strs (p := P) HO.out (fun x hx => by have := hsz x hx; unfold maxLen; omega)
      have HJ := hid (join_c 44 aa dd P wr hst (by omega) (fun x hx => by have := hsz x hx; omega))
      rw [hP, txt_join] at HJ
      rw [hPl] at *
      rw [List.length_map] at HJ
      clear hst hsz hP
      go_wp2_with fail
      refine HJ.out.mono ?_
      rintro e w3 ⟨rfl, n3⟩
      have N3 := hid ((N1.out.trans HN.out).trans n3)
      clear n3
      go_wp2
      go_ret2
      exact ⟨rfl, N3.out⟩
end Go.Proofs.YtbgmkplpolgebaaGreatDoor

namespace Go.Proofs.YtbgmkplpolgebaaGreatDoor
set_option linter.unusedSimpArgs false
set_option linter.unusedVariables false
open Go.RowKit Go.Shelf

theorem runP_num (a b : List UInt8) : runP a b = match numP a, numP b with
    | some f, some t => if t < f ∨ 4096 < t then none else some (f, t - f + 1)
    | _, _ => none := by
  rw [numP_eq, numP_eq]
  unfold runP
  cases natP a with
  | none => rfl
  | some f =>
    cases natP b with
    | none =>
      simp only
      by_cases h1 : f ≤ 9223372036854775807
      · rw [if_pos h1]
      · rw [if_neg h1]
    | some t =>
      simp only
      by_cases h1 : f ≤ 9223372036854775807
      · rw [if_pos h1]
        by_cases h2 : t ≤ 9223372036854775807
        · rw [if_pos h2]
          simp only
          by_cases h3 : t < f ∨ 4096 < t
          · rw [if_pos h3, if_pos (by omega)]
          · rw [if_neg h3, if_neg (by omega)]
        · rw [if_neg h2, if_pos (by omega)]
      · rw [if_neg h1, if_pos (by omega)]
theorem runP_no1 {a b : List UInt8} (h : numP a = none) : runP a b = none := by rw [runP_num, h]
theorem runP_no2 {a b : List UInt8} (h : numP b = none) : runP a b = none := by rw [runP_num, h]; cases numP a <;> rfl
theorem runP_no3 {a b : List UInt8} {f t : Int} (h1 : numP a = some f) (h2 : numP b = some t) (h : t < f ∨ 4096 < t) : runP a b = none := by rw [runP_num, h1, h2]; simp only; rw [if_pos h]
theorem runP_yes {a b : List UInt8} {f t : Int} (h1 : numP a = some f) (h2 : numP b = some t) (h : ¬ (t < f ∨ 4096 < t)) : runP a b = some (f, t - f + 1) := by rw [runP_num, h1, h2]; simp only; rw [if_neg h]
theorem numP_pos {s : List UInt8} {f : Int} (h : numP s = some f) : 0 ≤ f := by
  rw [numP_eq] at h
  split at h
  · split at h
    · injection h with h; omega
    · cases h
  · cases h
theorem frS_err {n : Nat} : ∀ {U : List (Int × Int)} {st : Int × List UInt8} {k : Int}, frS n U st = .error k → k = 7 ∨ k = 6
  | [], st, k, h => by cases h
  | r :: U, st, k, h => by
    simp only [frS] at h
    unfold frStep at h
    by_cases h1 : runBad n r = true
    · rw [if_pos h1] at h
      injection h with h
      exact .inl h.symm
    · rw [if_neg h1] at h
      by_cases h2 : r.1 < st.1
      · rw [if_pos h2] at h
        injection h with h
        exact .inr h.symm
      · rw [if_neg h2] at h
        exact frS_err h
theorem frR_err {n : Nat} {U : List (Int × Int)} {k : Int} (h : frR n U = .error k) : k = 7 ∨ k = 6 := by
  unfold frR at h
  split at h
  · next e he =>
    injection h with h
    subst h
    exact frS_err he
  · cases h
def partsS (s : List UInt8) : List (List UInt8) := if s = [] then [] else pieces [] 44 s
theorem bitsP_no1 {n : Nat} {s : List UInt8} (h : partsP (partsS s) = none) : bitsP n s = none := by unfold bitsP; unfold partsS at h; rw [h]
theorem bitsP_no2 {n : Nat} {s : List UInt8} {R : List (Int × Int)} {k : Int} (h : partsP (partsS s) = some R) (h2 : frR n R = .error k) : bitsP n s = none := by unfold bitsP; unfold partsS at h; rw [h]; simp only; rw [h2]
theorem bitsP_no3 {n : Nat} {s f : List UInt8} {R : List (Int × Int)} (h : partsP (partsS s) = some R) (h2 : frR n R = .ok f) (h3 : txtR (runsF n f) ≠ s) : bitsP n s = none := by unfold bitsP; unfold partsS at h; rw [h]; simp only; rw [h2]; simp only; rw [if_neg h3]
theorem bitsP_yes {n : Nat} {s f : List UInt8} {R : List (Int × Int)} (h : partsP (partsS s) = some R) (h2 : frR n R = .ok f) (h3 : txtR (runsF n f) = s) : bitsP n s = some f := by unfold bitsP; unfold partsS at h; rw [h]; simp only; rw [h2]; simp only; rw [if_pos h3]
def bpE : Option (List UInt8) → Ending
  | some f => .returned (.tuple #[.string (mkB f), .int .i64 0])
  | none => .returned (.tuple #[.string ⟨#[]⟩, .int .i64 2])
theorem cutB_le (c : UInt8) : ∀ (s : List UInt8), (cutB c s).1.length ≤ s.length ∧ (cutB c s).2.1.length ≤ s.length
  | [] => by simp [cutB]
  | b :: l => by
    obtain ⟨h1, h2⟩ := cutB_le c l
    rw [cutB]
    split
    · simp
    · simp only [List.length_cons]
      omega
set_option maxRecDepth 100000 in
set_option maxHeartbeats 8000000 in
theorem bParse_any (n : Nat) (t : ByteArray) (w : World) (hn : n ≤ 4096) (hs : t.size ≤ 65536) (hv : VarP w) :
    Calls Tryz.prog 83 #[.int .i64 n, .string t] w fun e w' => e = bpE (bitsP n t.data.toList) ∧ New w w' := by
  have HNW := hid (fun W => bNew_any n W hn)
  have HV := hid (fun W (n : New w W) => hv.new n)
  have hlen : t.data.toList.length = t.size := by rw [Array.length_toList]; rfl
  have hI : ¬ (65536 : Int) < (t.size : Int) := by omega
  have HSP := hid (fun W (n : New w W) => split_c 44 t W (hv.new n) (by omega))
  obtain ⟨X, hX⟩ : ∃ X, X = bitsP n t.data.toList := ⟨_, rfl⟩
  rw [← hX]
  have HXX := hid hX
  clear hX hv
  obtain ⟨i0, hi, hz0, hz1, hz2⟩ := info_parts info_runB
  by_cases h0 : t.size = 0
  · have hnil : t.data.toList = [] := List.eq_nil_of_length_eq_zero (by omega)
    have HPS : Hid (partsP (partsS t.data.toList) = some []) := hid (by rw [hnil]; rfl)
    have hte : (t.toList == []) = true := by
      rw [beq_iff_eq]
      rw [ByteArray.toList_eq]
      exact hnil
    have htI : t.toList.isEmpty = true := by
      rw [ByteArray.toList_eq, hnil]
      rfl
    have HNIL := hid hnil
    clear h0 hnil hlen
    go_enter Tryz.func83, Tryz.ntmps83
    go_wp2_with fail
    refine (HNW.out _).mono ?_
    rintro e w1 ⟨⟨s0, rfl⟩, n1⟩
    have N1 := hid n1
    clear n1
    go_wp2_with fail
    refine (HSP.out _ N1.out).mono ?_
    rintro e w2 ⟨rfl, hst, n2⟩
    have HN0 := hid (N1.out.trans n2)
    have hp1 : (pieces [] 44 t.data.toList).map mkB = [mkB []] := by rw [HNIL.out]; rfl
    rw [hp1] at hst ⊢
    obtain ⟨bb, oo, hbe, hbb, hcc⟩ := hst.get (by decide)
    injection hbe with hbe
    injection hbe with hb1 hb2
    subst hb1 hb2
    have g00 := hcc 0 (by decide)
    have HG := hid g00
    simp only [List.length_singleton]
    clear n2 hst hcc g00 hp1
    go_wp2_with fail
    go_loopw [36, 8] (fun i o wr => ∃ (v : Value) (RA : List (Int × Int)), i = .int .i64 0 ∧ v = o ∧ RA = [] ∧ OwnR wr w2.heap.size v RA ∧ New w2 wr) (fun i _ _ => 0)
    case atStart => exact ⟨_, [], rfl, rfl, rfl, OwnR.nil _ _, Mod.refl _ _⟩
    case round =>
      obtain ⟨v, RA, rfl, rfl, hRA, hO, hN⟩ := hrel
      have HO := hid hO
      have g0 := New.cellv hN HG.out
      have HN := hid (HN0.out.trans hN)
      have HPA := hid (show partsP (partsS t.data.toList) = some RA by rw [hRA]; exact HPS.out)
      clear hO hN hRA
      go_wp2_with fail
      clear hte htI
      have HRA := hid HO.out.runs
      have HFR := hid (fun W (q : New wr W) => bFrom_any n RA v W (HRA.out.new q) hn)
      cases hfr : frR n RA with
      | error ke =>
        rw [hfr] at HFR
        simp only [frE] at HFR
        have HX : Hid (X = none) := hid (by rw [HXX.out]; exact bitsP_no2 HPA.out hfr)
        have hke : (ke != 0) = true := by rcases frR_err hfr with rfl | rfl <;> rfl
        clear hfr
        refine (HFR.out _ (Mod.refl _ _)).mono ?_
        rintro e w3 ⟨rfl, n3⟩
        have N3 := hid (HN.out.trans n3)
        clear n3
        go_wp2
        go_ret2
        exact ⟨by rw [HX.out]; rfl, N3.out⟩
      | ok f =>
        rw [hfr] at HFR
        simp only [frE] at HFR
        have hff := frR_field hfr
        have HTX := hid (fun W (q : New w W) => bText_any n (mkB f) W hff hn (HV.out W q))
        rw [show (mkB f).data.toList = f from rfl] at HTX
        by_cases ht : txtR (runsF n f) = (t).data.toList
        · have HX : Hid (X = some f) := hid (by rw [HXX.out]; exact bitsP_yes HPA.out hfr ht)
          have hq : ((mkB (txtR (runsF n f))).toList != (t).toList) = false := by
            rw [bne, toL_eqB, show (mkB (txtR (runsF n f))).data.toList = txtR (runsF n f) from rfl, decide_eq_true ht]
            rfl
          have hq2 : ((mkB (txtR (runsF n f))).toList == (t).toList) = true := by rw [toL_eqB]; exact decide_eq_true ht
          clear hfr hff ht
          refine (HFR.out _ (Mod.refl _ _)).mono ?_
          rintro e w3 ⟨rfl, n3⟩
          have N3 := hid (HN.out.trans n3)
          clear n3
          go_wp2_with fail
          refine (HTX.out _ N3.out).mono ?_
          rintro e w4 ⟨rfl, n4⟩
          have N4 := hid (N3.out.trans n4)
          clear n4
          go_wp2
          go_ret2
          exact ⟨by rw [HX.out]; rfl, N4.out⟩
        · have HX : Hid (X = none) := hid (by rw [HXX.out]; exact bitsP_no3 HPA.out hfr ht)
          have hq : ((mkB (txtR (runsF n f))).toList != (t).toList) = true := by
            rw [bne, toL_eqB, show (mkB (txtR (runsF n f))).data.toList = txtR (runsF n f) from rfl, decide_eq_false ht]
            rfl
          have hq2 : ((mkB (txtR (runsF n f))).toList == (t).toList) = false := by rw [toL_eqB]; exact decide_eq_false ht
          clear hfr hff ht
          refine (HFR.out _ (Mod.refl _ _)).mono ?_
          rintro e w3 ⟨rfl, n3⟩
          have N3 := hid (HN.out.trans n3)
          clear n3
          go_wp2_with fail
          refine (HTX.out _ N3.out).mono ?_
          rintro e w4 ⟨rfl, n4⟩
          have N4 := hid (N3.out.trans n4)
          clear n4
          go_wp2
          go_ret2
          exact ⟨by rw [HX.out]; rfl, N4.out⟩
  · have hne : t.data.toList ≠ [] := fun q => h0 (by rw [← hlen, q]; rfl)
    have HPS := hid (show partsS t.data.toList = pieces [] 44 t.data.toList by unfold partsS; rw [if_neg hne])
    have hPL := pieces_len [] 44 t.data.toList
    have hcl := List.count_le_length (l := t.data.toList) (a := 44)
    obtain ⟨P, hP⟩ : ∃ P, P = pieces [] 44 t.data.toList := ⟨_, rfl⟩
    have HSZ : Hid (∀ k (h : k < P.length), (mkB P[k]).size ≤ 65537) := hid (fun k h => by
      subst hP
      have h1 := piece_le [] (by simp) 44 t.data.toList _ (List.getElem_mem h)
      have h2 : (mkB (pieces [] 44 t.data.toList)[k]).size = ((pieces [] 44 t.data.toList)[k]).length := size_list _
      omega)
    rw [← hP] at HPS HSP hPL
    have hmap : (P.map mkB).length = P.length := List.length_map _
    have hPle : P.length ≤ 65537 := by omega
    have hte : (t.toList == []) = false := by
      rw [beq_eq_false_iff_ne]
      rw [ByteArray.toList_eq]
      exact hne
    have htI : t.toList.isEmpty = false := by
      rw [ByteArray.toList_eq]
      cases hq : t.data.toList with
      | nil => exact absurd hq hne
      | cons x r => rfl
    clear hP hPL hcl hne h0 hlen
    go_enter Tryz.func83, Tryz.ntmps83
    go_wp2_with fail
    refine (HNW.out _).mono ?_
    rintro e w1 ⟨⟨s0, rfl⟩, n1⟩
    have N1 := hid n1
    clear n1
    go_wp2_with fail
    refine (HSP.out _ N1.out).mono ?_
    rintro e w2 ⟨rfl, hst, n2⟩
    have HST := hid hst
    have HN0 := hid (N1.out.trans n2)
    clear n2 hst
    rw [hmap]
    go_wp2_with fail
    go_loopw [36, 8] (fun i o wr => ∃ (k : Nat) (v : Value) (RA : List (Int × Int)), i = .int .i64 k ∧ v = o ∧ k ≤ P.length ∧ partsP (P.take k) = some RA ∧ RA.length = k ∧ OwnR wr w2.heap.size v RA ∧ New w2 wr) (fun i _ _ => P.length - (intOf i).toNat)
    case atStart => exact ⟨0, _, [], rfl, rfl, by omega, by rw [List.take_zero]; rfl, rfl, OwnR.nil _ _, Mod.refl _ _⟩
    case round =>
      obtain ⟨k, v, RA, rfl, rfl, hk, hpp, hRk, hO, hN⟩ := hrel
      have HO := hid hO; have HN2 := hid hN; have HPP := hid hpp
      have HN := hid (HN0.out.trans hN)
      by_cases hlt : k < P.length
      · have hltI : (k : Int) < (P.length : Int) := by omega
        have hst := HST.out.new hN
        obtain ⟨bb, oo, hbe, hbb, hcc⟩ := hst.get (by rw [hmap]; omega)
        injection hbe with hbe
        injection hbe with hb1 hb2
        subst hb1 hb2
        have g0 := hcc k (by rw [hmap]; exact hlt)
        rw [show (P.map mkB)[k]'(by rw [hmap]; exact hlt) = mkB P[k] from List.getElem_map _, Nat.zero_add] at g0
        have hxs := HSZ.out k hlt
        have HALL := hid (lst_all hlt)
        have HTK := hid (lst_next hlt)
        obtain ⟨x, hx⟩ : ∃ x, x = P[k] := ⟨_, rfl⟩
        rw [← hx] at g0 hxs HALL HTK
        have HCU := hid (fun W (q : New w W) => cut_c 45 (mkB x) W (HV.out W q) (by omega))
        rw [show (mkB x).data.toList = x from rfl] at HCU
        have hPX : partP x = runP (cutB 45 x).1 (if (cutB 45 x).2.2 = true then (cutB 45 x).2.1 else (cutB 45 x).1) := rfl
        have hl1 := cutB_le 45 x
        have hxl : (mkB x).size = x.length := size_list x
        clear hst hcc hx hO hN hpp
        cases htw : (cutB 45 x).2.2 with
        | true =>
          rw [htw, if_pos rfl] at hPX
          rw [htw] at HCU
          obtain ⟨A, hA⟩ : ∃ A, A = (cutB 45 x).1 := ⟨_, rfl⟩
          obtain ⟨B, hB⟩ : ∃ B, B = (cutB 45 x).2.1 := ⟨_, rfl⟩
          rw [← hA, ← hB] at hPX HCU hl1
          clear hA hB htw
          have HNA := hid (fun W (q : New w W) => bnumber_any (mkB A) W (by rw [show (mkB A).size = A.length from size_list A]; omega) (HV.out W q))
          have HNB := hid (fun W (q : New w W) => bnumber_any (mkB B) W (by rw [show (mkB B).size = B.length from size_list B]; omega) (HV.out W q))
          rw [show (mkB A).data.toList = A from rfl] at HNA
          rw [show (mkB B).data.toList = B from rfl] at HNB
          go_wp2_with fail
          refine (HCU.out _ HN.out).mono ?_
          rintro e w3 ⟨rfl, n3⟩
          have N3 := hid (HN.out.trans n3)
          have O3 := hid (HO.out.new n3)
          have NN3 := hid n3
          clear n3
          go_wp2_with fail
          refine (HNA.out _ N3.out).mono ?_
          rintro e w4 ⟨⟨xa, ba, rfl, ⟨ha0, ha1⟩, hra⟩, n4⟩
          have N4 := hid (N3.out.trans n4)
          have O4 := hid (O3.out.new n4)
          have NN4 := hid n4
          clear n4
          go_wp2_with fail
          refine (HNB.out _ N4.out).mono ?_
          rintro e w5 ⟨⟨xb, bb2, rfl, ⟨hb0, hb1⟩, hrb⟩, n5⟩
          have N5 := hid (N4.out.trans n5)
          have O5 := hid (O4.out.new n5)
          have NN5 := hid ((NN3.out.trans NN4.out).trans n5)
          clear n5
          rcases hra with ⟨hra, rfl⟩ | ⟨hra, rfl⟩
          · rcases hrb with ⟨hrb, rfl⟩ | ⟨hrb, rfl⟩
            · have hp0 := numP_pos hra
              by_cases h1 : xb < xa
              · have d1 : decide (xb < xa) = true := decide_eq_true h1
                have HX : Hid (X = none) := hid (by rw [HXX.out]; exact bitsP_no1 (by rw [HPS.out, HALL.out]; exact partsP_bad HPP.out (hPX.trans (runP_no3 hra hrb (.inl h1)))))
                clear hra hrb hPX
                go_wp2
                go_ret2
                exact ⟨by rw [HX.out]; rfl, N5.out⟩
              have d1 : decide (xb < xa) = false := decide_eq_false h1
              by_cases h2 : 4096 < xb
              · have d2 : decide (4096 < xb) = true := decide_eq_true h2
                have HX : Hid (X = none) := hid (by rw [HXX.out]; exact bitsP_no1 (by rw [HPS.out, HALL.out]; exact partsP_bad HPP.out (hPX.trans (runP_no3 hra hrb (.inr h2)))))
                clear hra hrb hPX
                go_wp2
                go_ret2
                exact ⟨by rw [HX.out]; rfl, N5.out⟩
              have d2 : decide (4096 < xb) = false := decide_eq_false h2
              have HNX := hid (partsP_next HPP.out (hPX.trans (runP_yes hra hrb (by omega))))
              rw [← HTK.out] at HNX
              have hw1 : IntKind.i64.wrap (xb - xa) = xb - xa := by rw [IntKind.wrap_i64]; omega
              have hw2 : IntKind.i64.wrap (xb - xa + 1) = xb - xa + 1 := by rw [IntKind.wrap_i64]; omega
              clear hra hrb hPX
              go_wp2_with (first | (at_builtin; refine wpList_append_own_at _ rfl _ _ 25 rfl w2.heap.size 66 i0 _ 2 16 Tryz.underlying25 hi hz0 hz1 hz2 rfl (by decide) v RA.length (runRow RA) rfl ?ow ⟨w5.heap.size, 0, none⟩ 1 1 [.int .i64 xa, .int .i64 (xb - xa + 1)] rfl rfl ?hn ?h1 ?h63 ?hby ?hba ?_) | fail)
              case ow => exact O5.out.new ((Mod.refl _ _).alloc _)
              case hn => exact fun j u hj => two_new w5 _ _ _ rfl j u hj
              case h1 => intro u hu; simp at hu; rcases hu with rfl | rfl <;> rfl
              case h63 => unfold maxLen; omega
              case hby => omega
              case hba => have h1 := HN2.out.size; have h2 := NN5.out.size; simp; omega
              intro o6 w6 r6 g6 _ _
              have O6 : Hid (OwnR w6 w2.heap.size o6 (RA ++ [(xa, xb - xa + 1)])) := hid (by
                unfold OwnR
                rw [List.length_append, runRow_app, hRk]
                exact r6)
              have N6 : Hid (New w2 w6) := hid (newGrown ((HN2.out.trans NN5.out).alloc _) g6 (fun j hj => by
                obtain ⟨-, -, -, hb⟩ := O5.out.form
                exact hb j hj))
              clear r6 g6
              go_wp2
              exact ⟨⟨k + 1, _, RA ++ [(xa, xb - xa + 1)], by simp, rfl, by omega, HNX.out, by simp; omega, O6.out, N6.out⟩, by simp [intOf]; omega⟩
            · have HX : Hid (X = none) := hid (by rw [HXX.out]; exact bitsP_no1 (by rw [HPS.out, HALL.out]; exact partsP_bad HPP.out (hPX.trans (runP_no2 hrb))))
              clear hra hrb hPX
              go_wp2
              go_ret2
              exact ⟨by rw [HX.out]; rfl, N5.out⟩
          · have HX : Hid (X = none) := hid (by rw [HXX.out]; exact bitsP_no1 (by rw [HPS.out, HALL.out]; exact partsP_bad HPP.out (hPX.trans (runP_no1 hra))))
            clear hra hrb hPX
            go_wp2
            go_ret2
            exact ⟨by rw [HX.out]; rfl, N5.out⟩
        | false =>
          rw [htw, if_neg (by decide)] at hPX
          rw [htw] at HCU
          obtain ⟨A, hA⟩ : ∃ A, A = (cutB 45 x).1 := ⟨_, rfl⟩
          obtain ⟨B0, hB0⟩ : ∃ B, B = (cutB 45 x).2.1 := ⟨_, rfl⟩
          rw [← hA, ← hB0] at HCU hl1
          rw [← hA] at hPX
          clear hA hB0 htw
          have HNA := hid (fun W (q : New w W) => bnumber_any (mkB A) W (by rw [show (mkB A).size = A.length from size_list A]; omega) (HV.out W q))
          have HNB := hid (fun W (q : New w W) => bnumber_any (mkB A) W (by rw [show (mkB A).size = A.length from size_list A]; omega) (HV.out W q))
          rw [show (mkB A).data.toList = A from rfl] at HNA
          rw [show (mkB A).data.toList = A from rfl] at HNB
          go_wp2_with fail
          refine (HCU.out _ HN.out).mono ?_
          rintro e w3 ⟨rfl, n3⟩
          have N3 := hid (HN.out.trans n3)
          have O3 := hid (HO.out.new n3)
          have NN3 := hid n3
          clear n3
          go_wp2_with fail
          refine (HNA.out _ N3.out).mono ?_
          rintro e w4 ⟨⟨xa, ba, rfl, ⟨ha0, ha1⟩, hra⟩, n4⟩
          have N4 := hid (N3.out.trans n4)
          have O4 := hid (O3.out.new n4)
          have NN4 := hid n4
          clear n4
          go_wp2_with fail
          refine (HNB.out _ N4.out).mono ?_
          rintro e w5 ⟨⟨xb, bb2, rfl, ⟨hb0, hb1⟩, hrb⟩, n5⟩
          have N5 := hid (N4.out.trans n5)
          have O5 := hid (O4.out.new n5)
          have NN5 := hid ((NN3.out.trans NN4.out).trans n5)
          clear n5
          rcases hra with ⟨hra, rfl⟩ | ⟨hra, rfl⟩
          · rcases hrb with ⟨hrb, rfl⟩ | ⟨hrb, rfl⟩
            · have hp0 := numP_pos hra
              by_cases h1 : xb < xa
              · have d1 : decide (xb < xa) = true := decide_eq_true h1
                have HX : Hid (X = none) := hid (by rw [HXX.out]; exact bitsP_no1 (by rw [HPS.out, HALL.out]; exact partsP_bad HPP.out (hPX.trans (runP_no3 hra hrb (.inl h1)))))
                clear hra hrb hPX
                go_wp2
                go_ret2
                exact ⟨by rw [HX.out]; rfl, N5.out⟩
              have d1 : decide (xb < xa) = false := decide_eq_false h1
              by_cases h2 : 4096 < xb
              · have d2 : decide (4096 < xb) = true := decide_eq_true h2
                have HX : Hid (X = none) := hid (by rw [HXX.out]; exact bitsP_no1 (by rw [HPS.out, HALL.out]; exact partsP_bad HPP.out (hPX.trans (runP_no3 hra hrb (.inr h2)))))
                clear hra hrb hPX
                go_wp2
                go_ret2
                exact ⟨by rw [HX.out]; rfl, N5.out⟩
              have d2 : decide (4096 < xb) = false := decide_eq_false h2
              have HNX := hid (partsP_next HPP.out (hPX.trans (runP_yes hra hrb (by omega))))
              rw [← HTK.out] at HNX
              have hw1 : IntKind.i64.wrap (xb - xa) = xb - xa := by rw [IntKind.wrap_i64]; omega
              have hw2 : IntKind.i64.wrap (xb - xa + 1) = xb - xa + 1 := by rw [IntKind.wrap_i64]; omega
              clear hra hrb hPX
              go_wp2_with (first | (at_builtin; refine wpList_append_own_at _ rfl _ _ 25 rfl w2.heap.size 66 i0 _ 2 16 Tryz.underlying25 hi hz0 hz1 hz2 rfl (by decide) v RA.length (runRow RA) rfl ?ow ⟨w5.heap.size, 0, none⟩ 1 1 [.int .i64 xa, .int .i64 (xb - xa + 1)] rfl rfl ?hn ?h1 ?h63 ?hby ?hba ?_) | fail)
              case ow => exact O5.out.new ((Mod.refl _ _).alloc _)
              case hn => exact fun j u hj => two_new w5 _ _ _ rfl j u hj
              case h1 => intro u hu; simp at hu; rcases hu with rfl | rfl <;> rfl
              case h63 => unfold maxLen; omega
              case hby => omega
              case hba => have h1 := HN2.out.size; have h2 := NN5.out.size; simp; omega
              intro o6 w6 r6 g6 _ _
              have O6 : Hid (OwnR w6 w2.heap.size o6 (RA ++ [(xa, xb - xa + 1)])) := hid (by
                unfold OwnR
                rw [List.length_append, runRow_app, hRk]
                exact r6)
              have N6 : Hid (New w2 w6) := hid (newGrown ((HN2.out.trans NN5.out).alloc _) g6 (fun j hj => by
                obtain ⟨-, -, -, hb⟩ := O5.out.form
                exact hb j hj))
              clear r6 g6
              go_wp2
              exact ⟨⟨k + 1, _, RA ++ [(xa, xb - xa + 1)], by simp, rfl, by omega, HNX.out, by simp; omega, O6.out, N6.out⟩, by simp [intOf]; omega⟩
            · have HX : Hid (X = none) := hid (by rw [HXX.out]; exact bitsP_no1 (by rw [HPS.out, HALL.out]; exact partsP_bad HPP.out (hPX.trans (runP_no2 hrb))))
              clear hra hrb hPX
              go_wp2
              go_ret2
              exact ⟨by rw [HX.out]; rfl, N5.out⟩
          · have HX : Hid (X = none) := hid (by rw [HXX.out]; exact bitsP_no1 (by rw [HPS.out, HALL.out]; exact partsP_bad HPP.out (hPX.trans (runP_no1 hra))))
            clear hra hrb hPX
            go_wp2
            go_ret2
            exact ⟨by rw [HX.out]; rfl, N5.out⟩
      · have hkk : k = P.length := by omega
        have HPA := hid (show partsP (partsS t.data.toList) = some RA by rw [HPS.out, ← HPP.out, hkk, List.take_length])
        clear hO hN hpp
        subst hkk
        go_wp2_with fail
        have HRA := hid HO.out.runs
        have HFR := hid (fun W (q : New wr W) => bFrom_any n RA v W (HRA.out.new q) hn)
        cases hfr : frR n RA with
        | error ke =>
          rw [hfr] at HFR
          simp only [frE] at HFR
          have HX : Hid (X = none) := hid (by rw [HXX.out]; exact bitsP_no2 HPA.out hfr)
          have hke : (ke != 0) = true := by rcases frR_err hfr with rfl | rfl <;> rfl
          clear hfr
          refine (HFR.out _ (Mod.refl _ _)).mono ?_
          rintro e w3 ⟨rfl, n3⟩
          have N3 := hid (HN.out.trans n3)
          clear n3
          go_wp2
          go_ret2
          exact ⟨by rw [HX.out]; rfl, N3.out⟩
        | ok f =>
          rw [hfr] at HFR
          simp only [frE] at HFR
          have hff := frR_field hfr
          have HTX := hid (fun W (q : New w W) => bText_any n (mkB f) W hff hn (HV.out W q))
          rw [show (mkB f).data.toList = f from rfl] at HTX
          by_cases ht : txtR (runsF n f) = (t).data.toList
          · have HX : Hid (X = some f) := hid (by rw [HXX.out]; exact bitsP_yes HPA.out hfr ht)
            have hq : ((mkB (txtR (runsF n f))).toList != (t).toList) = false := by
              rw [bne, toL_eqB, show (mkB (txtR (runsF n f))).data.toList = txtR (runsF n f) from rfl, decide_eq_true ht]
              rfl
            have hq2 : ((mkB (txtR (runsF n f))).toList == (t).toList) = true := by rw [toL_eqB]; exact decide_eq_true ht
            clear hfr hff ht
            refine (HFR.out _ (Mod.refl _ _)).mono ?_
            rintro e w3 ⟨rfl, n3⟩
            have N3 := hid (HN.out.trans n3)
            clear n3
            go_wp2_with fail
            refine (HTX.out _ N3.out).mono ?_
            rintro e w4 ⟨rfl, n4⟩
            have N4 := hid (N3.out.trans n4)
            clear n4
            go_wp2
            go_ret2
            exact ⟨by rw [HX.out]; rfl, N4.out⟩
          · have HX : Hid (X = none) := hid (by rw [HXX.out]; exact bitsP_no3 HPA.out hfr ht)
            have hq : ((mkB (txtR (runsF n f))).toList != (t).toList) = true := by
              rw [bne, toL_eqB, show (mkB (txtR (runsF n f))).data.toList = txtR (runsF n f) from rfl, decide_eq_false ht]
              rfl
            have hq2 : ((mkB (txtR (runsF n f))).toList == (t).toList) = false := by rw [toL_eqB]; exact decide_eq_false ht
            clear hfr hff ht
            refine (HFR.out _ (Mod.refl _ _)).mono ?_
            rintro e w3 ⟨rfl, n3⟩
            have N3 := hid (HN.out.trans n3)
            clear n3
            go_wp2_with fail
            refine (HTX.out _ N3.out).mono ?_
            rintro e w4 ⟨rfl, n4⟩
            have N4 := hid (N3.out.trans n4)
            clear n4
            go_wp2
            go_ret2
            exact ⟨by rw [HX.out]; rfl, N4.out⟩
end Go.Proofs.YtbgmkplpolgebaaGreatDoor
