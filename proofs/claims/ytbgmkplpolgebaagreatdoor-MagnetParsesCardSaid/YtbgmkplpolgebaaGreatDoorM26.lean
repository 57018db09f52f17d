/-
  Several texts in one, in their build order. The walk of Text (package bits). Conditions: the field is right; the library's variables are as laid.
-/
import Derived.Test.YtbgmkplpolgebaaGreatDoorM25
namespace Go.Proofs.YtbgmkplpolgebaaGreatDoor
set_option linter.unusedSimpArgs false
set_option linter.unusedVariables false
open Go.RowKit Go.Shelf

theorem joinTail_len (c : UInt8) (M : Nat) : ∀ (L : List (List UInt8)), (∀ x ∈ L, x.length ≤ M) → (Lib.joinTail [c] L).length ≤ L.length * (M + 1)
  | [], _ => by simp [Lib.joinTail]
  | x :: L, h => by
    have h1 := joinTail_len c M L (fun y hy => h y (by simp [hy]))
    have h2 := h x (by simp)
    have e : Lib.joinTail [c] (x :: L) = c :: (x ++ Lib.joinTail [c] L) := by simp [Lib.joinTail]
    rw [e, List.length_cons, List.length_append, List.length_cons, Nat.add_mul]
    omega
theorem join_len (c : UInt8) (M : Nat) (L : List (List UInt8)) (h : ∀ x ∈ L, x.length ≤ M) : (Lib.join L [c]).length ≤ L.length * (M + 1) := by
  cases L with
  | nil => simp [Lib.join]
  | cons x L =>
    rw [Lib.join_cons, List.length_append, List.length_cons, Nat.add_mul]
    have h1 := joinTail_len c M L (fun y hy => h y (by simp [hy]))
    have h2 := h x (by simp)
    omega
theorem join_c (c : UInt8) (a : Option Addr) (d : Nat) (p : List ByteArray) (w : World) (h : StrsAt w a d p) (hl : p.length ≤ 100000) (hb : ∀ x ∈ p, x.size ≤ 100000) :
    Calls Tryz.prog 56 #[.slice a p.length d, .string ⟨#[c]⟩] w fun e w' => e = .returned (.string (mkB (Lib.join (p.map (·.data.toList)) [c]))) ∧ New w w' := by
  have hb' : (Lib.join (p.map (·.data.toList)) [c]).length ≤ 140737488355328 := by
    have := join_len c 100000 (p.map (·.data.toList)) (fun x hx => by
      obtain ⟨y, hy, rfl⟩ := List.mem_map.1 hx
      have h1 := hb y hy
      have h2 : y.data.toList.length = y.size := by rw [Array.length_toList]; rfl
      omega)
    rw [List.length_map] at this
    have h3 : p.length * (100000 + 1) ≤ 100000 * (100000 + 1) := Nat.mul_le_mul_right _ hl
    omega
  rcases h.at' with rfl | ⟨b, o, rfl, hlt, hc⟩
  · refine (Tryz.strings_Join_none a d _ w).mono ?_
    rintro e w' ⟨rfl, rfl⟩
    exact ⟨rfl, Mod.refl _ _⟩
  · refine (Tryz.strings_Join b o d p ⟨#[c]⟩ w hc hlt (by omega) h.room hb').mono ?_
    rintro e w' ⟨rfl, hn⟩
    exact ⟨rfl, New.of_below hn⟩
def pieceB (r : Int × Int) : ByteArray := mkB (pieceT r)
theorem pieceB_one {r : Int × Int} (h : ¬ 1 < r.2) : itoaB r.1 = pieceB r := by
  unfold pieceB pieceT
  rw [if_neg h, List.append_nil]
  rfl
theorem pieceB_two {r : Int × Int} (h : 1 < r.2) : itoaB r.1 ++ (⟨#[45]⟩ ++ itoaB (r.1 + r.2 - 1)) = pieceB r := by
  unfold pieceB pieceT
  rw [if_pos h]
  apply bytes_ext
  simp [mkB, itoaB]
theorem piece_size {r : Int × Int} (h0 : 0 ≤ r.1) (h1 : r.1 + r.2 ≤ 4097) (h2 : 1 ≤ r.2) : (pieceB r).size ≤ 43 := by
  have e : (pieceB r).size = (pieceT r).length := size_list _
  rw [e]
  unfold pieceT
  have a1 := Lib.itoa_length_le r.1 (by omega) (by omega)
  have a2 := Lib.itoa_length_le (r.1 + r.2 - 1) (by omega) (by omega)
  rw [List.length_append]
  split <;> simp <;> omega
theorem txt_join (U : List (Int × Int)) : mkB (Lib.join ((U.map pieceB).map (·.data.toList)) [44]) = mkB (txtR U) := by
  unfold txtR
  rw [List.map_map]
  rfl
set_option maxRecDepth 100000 in
set_option maxHeartbeats 8000000 in
theorem bText_any (n : Nat) (s : ByteArray) (w : World) (h : FieldOf n s.data.toList) (hn : n ≤ 4096) (hv : VarP w) :
    Calls Tryz.prog 55 #[.int .i64 n, .string s] w fun e w' => e = .returned (.tuple #[.string (mkB (txtR (runsF n s.data.toList))), .int .i64 0]) ∧ New w w' := by
  have HRU := hid (bRuns_any n s w h hn)
  have HV := hid (fun W (n : New w W) => hv.new n)
  have HG := runs_good (n := n) (numsL n s.data.toList) (fun i hi => numsL_lt hi)
  have hNL := numsL_le n s.data.toList
  obtain ⟨U, hU⟩ : ∃ U, U = runsF n s.data.toList := ⟨_, rfl⟩
  have hUG : (∀ r ∈ U, 0 ≤ r.1 ∧ 1 ≤ r.2 ∧ r.1 + r.2 ≤ n) ∧ U.length ≤ 4096 := by rw [hU]; exact ⟨HG.1, by have := HG.2; unfold runsF; omega⟩
  rw [← hU] at HRU ⊢
  have HUG := hid hUG.1
  have hUl := hUG.2
  obtain ⟨i1, hj, hy0, hy1, hy2⟩ := info_parts info_str
  clear hU HG hNL hUG h hv
  go_enter Tryz.func55, Tryz.ntmps55
  go_wp2_with fail
  refine HRU.out.mono ?_
  rintro e w1 ⟨v0, rfl, ho, n1⟩
  obtain ⟨a, c, rfl, hc1, hc2, hat⟩ := ho.runs
  unfold maxLen at hc2
  have N1 := hid n1
  have HAT := hid hat
  clear n1 ho hat HRU
  go_wp2
  go_loopw [20, 8] (fun i o wr => ∃ (k : Nat) (v : Value) (P : List ByteArray), i = .int .i64 k ∧ v = o ∧ k ≤ U.length ∧ P = (U.take k).map pieceB ∧ OwnT wr w1.heap.size v P ∧ New w1 wr) (fun i _ _ => U.length - (intOf i).toNat)
  case atStart => exact ⟨0, _, [], rfl, rfl, by omega, by simp, OwnT.nil _ _, Mod.refl _ _⟩
  case round =>
    obtain ⟨k, v, P, rfl, rfl, hk, hP, hO, hN⟩ := hrel
    have HP := hid hP; have HO := hid hO; have HN := hid hN
    have hPl : P.length = k := by rw [hP, List.length_map, List.length_take]; omega
    clear hP hO hN
    by_cases hlt : k < U.length
    · have hltI : (k : Int) < (U.length : Int) := by omega
      rcases HAT.out with hnil | ⟨bb, oo, rfl, hbb, hcc⟩
      · rw [hnil] at hlt; simp at hlt
      · obtain ⟨g0, g1⟩ := hcc k hlt
        have g0 := New.cellv HN.out g0
        have g1 := New.cellv HN.out g1
        have HTK := hid (lst_next hlt)
        obtain ⟨hr0, hr1, hr2⟩ := HUG.out _ (List.getElem_mem hlt)
        obtain ⟨r, hr⟩ : ∃ r, r = U[k] := ⟨_, rfl⟩
        rw [← hr] at g0 g1 HTK hr0 hr1 hr2
        clear hcc hr
        have HI1 := hid (fun W (q : New wr W) => itoa_any r.1 (by omega) (by omega) W (HV.out W ((N1.out.trans HN.out).trans q)).tab)
        have hs1 := itoa_size (n := r.1) (by omega) (by omega)
        by_cases h2 : 1 < r.2
        · have PB := hid (pieceB_two h2)
          have HI2 := hid (fun W (q : New wr W) => itoa_any (r.1 + r.2 - 1) (by omega) (by omega) W (HV.out W ((N1.out.trans HN.out).trans q)).tab)
          have hs2 := itoa_size (n := r.1 + r.2 - 1) (by omega) (by omega)
          have hw1 : IntKind.i64.wrap (r.1 + r.2) = r.1 + r.2 := by rw [IntKind.wrap_i64]; omega
          have hw2 : IntKind.i64.wrap (r.1 + r.2 - 1) = r.1 + r.2 - 1 := by rw [IntKind.wrap_i64]; omega
          go_wp2_with fail
          refine (HI1.out _ ((Mod.refl _ _).alloc _)).mono ?_
          rintro e w2 ⟨rfl, n2⟩
          have hb2 := n2.blk (Blk.new wr #[.int .i64 r.1, .int .i64 r.2] 66)
          have HB2 := hid hb2
          have x0 := hb2.cellv 0 rfl; have x1 := hb2.cellv 1 rfl; have xl := hb2.lt
          have N2 := hid (((Mod.refl (fun _ => False) wr).alloc (.cells #[.int .i64 r.1, .int .i64 r.2] 66)).trans n2)
          clear n2 hb2
          go_wp2_with fail
          refine (HI2.out _ N2.out).mono ?_
          rintro e w3 ⟨rfl, n3⟩
          have HO3 := hid (HO.out.new (N2.out.trans n3))
          have N3 := hid ((HN.out.trans N2.out).trans n3)
          clear n3 x0 x1 xl
          go_wp2_with (at_builtin; refine wpList_append_own_at _ rfl _ _ 23 rfl w1.heap.size 9 i1 _ 1 16 Tryz.underlying23 hj hy0 hy1 hy2 rfl (by decide) v P.length (P.map Value.string) rfl ?owA ⟨w3.heap.size, 0, none⟩ 1 1 [.string (itoaB r.1 ++ (⟨#[45]⟩ ++ itoaB (r.1 + r.2 - 1)))] rfl rfl ?hnA ?h1A ?h63A ?hbyA ?hbaA ?_)
          case owA => exact HO3.out.new ((Mod.refl _ _).alloc _)
          case hnA =>
            intro j u hj
            rw [add_none]
            match j, hj with
            | 0, hj => simp at hj; subst hj; exact (Blk.newAt (by simp)).cellv 0 rfl
          case h1A => intro u hu; simp at hu; subst hu; rfl
          case h63A => unfold maxLen; omega
          case hbyA => omega
          case hbaA => have := N3.out.size; simp at *; omega
          intro o3 w4 r3 g3 _ _
          have O3 : Hid (OwnT w4 w1.heap.size o3 (P ++ [pieceB r])) := hid (own_pushT r3 (by omega) (by rw [PB.out]))
          have N4 : Hid (New w1 w4) := hid (newGrown (N3.out.alloc _) g3 (fun j hj => (World.ownsRow.lt HO3.out j hj).1))
          clear r3 g3
          go_wp2
          exact ⟨⟨k + 1, _, P ++ [pieceB r], by simp, rfl, by omega, by rw [HTK.out, List.map_append, ← HP.out]; rfl, O3.out, N4.out⟩, by simp [intOf]; omega⟩
        · have PB := hid (pieceB_one h2)
          go_wp2_with fail
          refine (HI1.out _ ((Mod.refl _ _).alloc _)).mono ?_
          rintro e w3 ⟨rfl, n2⟩
          have hb2 := n2.blk (Blk.new wr #[.int .i64 r.1, .int .i64 r.2] 66)
          have x0 := hb2.cellv 0 rfl; have x1 := hb2.cellv 1 rfl; have xl := hb2.lt
          have N2 := hid (((Mod.refl (fun _ => False) wr).alloc (.cells #[.int .i64 r.1, .int .i64 r.2] 66)).trans n2)
          have HO3 := hid (HO.out.new N2.out)
          have N3 := hid (HN.out.trans N2.out)
          clear n2 hb2
          go_wp2_with (at_builtin; refine wpList_append_own_at _ rfl _ _ 23 rfl w1.heap.size 9 i1 _ 1 16 Tryz.underlying23 hj hy0 hy1 hy2 rfl (by decide) v P.length (P.map Value.string) rfl ?owB ⟨w3.heap.size, 0, none⟩ 1 1 [.string (itoaB r.1)] rfl rfl ?hnB ?h1B ?h63B ?hbyB ?hbaB ?_)
          case owB => exact HO3.out.new ((Mod.refl _ _).alloc _)
          case hnB =>
            intro j u hj
            rw [add_none]
            match j, hj with
            | 0, hj => simp at hj; subst hj; exact (Blk.newAt (by simp)).cellv 0 rfl
          case h1B => intro u hu; simp at hu; subst hu; rfl
          case h63B => unfold maxLen; omega
          case hbyB => omega
          case hbaB => have := N3.out.size; simp at *; omega
          intro o3 w4 r3 g3 _ _
          have O3 : Hid (OwnT w4 w1.heap.size o3 (P ++ [pieceB r])) := hid (own_pushT r3 (by omega) (by rw [PB.out]))
          have N4 : Hid (New w1 w4) := hid (newGrown (N3.out.alloc _) g3 (fun j hj => (World.ownsRow.lt HO3.out j hj).1))
          clear r3 g3
          go_wp2
          exact ⟨⟨k + 1, _, P ++ [pieceB r], by simp, rfl, by omega, by rw [HTK.out, List.map_append, ← HP.out]; rfl, O3.out, N4.out⟩, by simp [intOf]; omega⟩
    · obtain rfl : k = U.length := by omega
      have hP := HP.out
      rw [List.take_length] at hP
      have hsz : ∀ x ∈ P, x.size ≤ 43 := by
        intro x hx
        rw [hP] at hx
        obtain ⟨r, hr, rfl⟩ := List.mem_map.1 hx
        obtain ⟨q0, q1, q2⟩ := HUG.out r hr
        exact piece_size q0 (by omega) q1
      obtain ⟨aa, dd, rfl, hst, -⟩ := owns_strs (p := P) HO.out (fun x hx => by have := hsz x hx; unfold maxLen; omega)
      have HJ := hid (join_c 44 aa dd P wr hst (by omega) (fun x hx => by have := hsz x hx; omega))
      rw [hP, txt_join] at HJ
      rw [hPl] at *
      rw [List.length_map] at HJ
      clear hst hsz hP
      go_wp2_with fail
      refine HJ.out.mono ?_
      rintro e w3 ⟨rfl, n3⟩
      have N3 := hid ((N1.out.trans HN.out).trans n3)
      clear n3
      go_wp2
      go_ret2
      exact ⟨rfl, N3.out⟩
end Go.Proofs.YtbgmkplpolgebaaGreatDoor
