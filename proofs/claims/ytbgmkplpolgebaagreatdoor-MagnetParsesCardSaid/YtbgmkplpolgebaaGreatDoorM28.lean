/-
  Several texts in one, in their build order. The reference's Text of a field. Conditions: the field is right. The reference's addresses: Valid, group, text. Conditions: the address is right.
-/
import Derived.Test.YtbgmkplpolgebaaGreatDoorM23
import Derived.Test.YtbgmkplpolgebaaGreatDoorM27
import Derived.Test.YtbgmkplpolgebaaGreatDoorM15
import Derived.Test.YtbgmkplpolgebaaGreatDoorM5
namespace Go.Proofs.YtbgmkplpolgebaaGreatDoor
set_option linter.unusedSimpArgs false
set_option linter.unusedVariables false
open Go.RowKit Go.Shelf

theorem joinTail_snoc (c : UInt8) (x : List UInt8) : ∀ (L : List (List UInt8)), Lib.joinTail [c] (L ++ [x]) = Lib.joinTail [c] L ++ c :: x
  | [] => by simp [Lib.joinTail]
  | y :: L => by
    have e : ∀ M : List (List UInt8), Lib.joinTail [c] (y :: M) = c :: (y ++ Lib.joinTail [c] M) := fun M => by simp [Lib.joinTail]
    rw [List.cons_append, e, e, joinTail_snoc c x L]
    simp
theorem join_snoc (c : UInt8) (x : List UInt8) (L : List (List UInt8)) (h : L ≠ []) : Lib.join (L ++ [x]) [c] = Lib.join L [c] ++ c :: x := by
  cases L with
  | nil => exact absurd rfl h
  | cons y L =>
    rw [List.cons_append, Lib.join_cons, Lib.join_cons, joinTail_snoc]
    simp
theorem txtR_one (r : Int × Int) : txtR [r] = pieceT r := by
  unfold txtR
  rw [List.map_cons, List.map_nil, Lib.join_one]
theorem txtR_snoc (A : List (Int × Int)) (r : Int × Int) (h : A ≠ []) : txtR (A ++ [r]) = txtR A ++ 44 :: pieceT r := by
  unfold txtR
  rw [List.map_append, List.map_cons, List.map_nil, join_snoc _ _ _ (by simpa using h)]
theorem txtR_len {A : List (Int × Int)} {n : Nat} (hn : n ≤ 4096) (h : ∀ r ∈ A, 0 ≤ r.1 ∧ 1 ≤ r.2 ∧ r.1 + r.2 ≤ n) (hl : A.length ≤ 4096) : (txtR A).length ≤ 4096 * 44 := by
  unfold txtR
  have := join_len 44 43 (A.map pieceT) (fun x hx => by
    obtain ⟨r, hr, rfl⟩ := List.mem_map.1 hx
    obtain ⟨h0, h1, h2⟩ := h r hr
    have := piece_size h0 (by omega : r.1 + r.2 ≤ 4097) h1
    have e : (pieceB r).size = (pieceT r).length := size_list _
    omega)
  rw [List.length_map] at this
  have h3 : A.length * (43 + 1) ≤ 4096 * 44 := Nat.mul_le_mul_right _ hl
  omega
theorem dec_int {z : Int} (h0 : 0 ≤ z) (h1 : z ≤ 100000) (w : World) : Calls Tryz.prog 121 #[.int .i64 z] w fun e w' => e = .returned (.string (itoaB z)) ∧ New w w' := by
  obtain ⟨m, rfl⟩ := Int.eq_ofNat_of_zero_le h0
  exact decimal_nat m (by omega) w
set_option maxRecDepth 100000 in
set_option maxHeartbeats 8000000 in
theorem rText_any (n : Nat) (s : ByteArray) (w : World) (h : FieldOf n s.data.toList) (hn : n ≤ 4096) :
    Calls Tryz.prog 60 #[.int .i64 n, .string s] w fun e w' => e = .returned (.tuple #[.string (mkB (txtR (runsF n s.data.toList))), .int .i64 0]) ∧ New w w' := by
  have HRU := hid (rRuns_any n s w h hn)
  have HG := runs_good (n := n) (numsL n s.data.toList) (fun i hi => numsL_lt hi)
  have hNL := numsL_le n s.data.toList
  obtain ⟨U, hU⟩ : ∃ U, U = runsF n s.data.toList := ⟨_, rfl⟩
  have hUG : (∀ r ∈ U, 0 ≤ r.1 ∧ 1 ≤ r.2 ∧ r.1 + r.2 ≤ n) ∧ U.length ≤ 4096 := by rw [hU]; exact ⟨HG.1, by have := HG.2; unfold runsF; omega⟩
  rw [← hU] at HRU ⊢
  have HUG := hid hUG.1
  have hUl := hUG.2
  clear hU HG hNL hUG h
  go_enter Tryz.func60, Tryz.ntmps60
  go_wp2_with fail
  refine HRU.out.mono ?_
  rintro e w1 ⟨v0, rfl, ho, n1⟩
  obtain ⟨a, c, rfl, hc1, hc2, hat⟩ := ho.runs
  unfold maxLen at hc2
  have N1 := hid n1
  have HAT := hid hat
  clear n1 ho hat HRU
  go_wp2
  go_loopw [19, 8] (fun i o wr => ∃ (k : Nat) (b : ByteArray), i = .int .i64 k ∧ o = .string b ∧ k ≤ U.length ∧ b.data.toList = txtR (U.take k) ∧ New w1 wr) (fun i _ _ => U.length - (intOf i).toNat)
  case atStart => exact ⟨0, _, rfl, rfl, by omega, by rw [List.take_zero]; rfl, Mod.refl _ _⟩
  case round =>
    obtain ⟨k, b, rfl, rfl, hk, hO, hN⟩ := hrel
    have HO := hid hO; have HN := hid hN
    have hbl := txtR_len hn (A := U.take k) (fun r hr => HUG.out r (List.mem_of_mem_take hr)) (by rw [List.length_take]; omega)
    rw [← hO] at hbl
    have hbs : b.data.toList.length = b.size := by rw [Array.length_toList]; rfl
    have hbz : b.size ≤ 180224 := by omega
    clear hO hN hbl hbs
    by_cases hlt : k < U.length
    · have hltI : (k : Int) < (U.length : Int) := by omega
      rcases HAT.out with hnil | ⟨bb, oo, rfl, hbb, hcc⟩
      · rw [hnil] at hlt; simp at hlt
      · obtain ⟨g0, g1⟩ := hcc k hlt
        have g0 := New.cellv HN.out g0
        have g1 := New.cellv HN.out g1
        have htk := lst_next hlt
        obtain ⟨hr0, hr1, hr2⟩ := HUG.out _ (List.getElem_mem hlt)
        obtain ⟨r, hr⟩ : ∃ r, r = U[k] := ⟨_, rfl⟩
        rw [← hr] at g0 g1 htk hr0 hr1 hr2
        have HTK := hid htk
        clear hcc hr htk
        have HI1 := hid (fun W => dec_int (z := r.1) (by omega) (by omega) W)
        have hs1 := itoa_size (n := r.1) (by omega) (by omega)
        by_cases h0 : k = 0
        · have hk0 : ¬ (0 : Int) < (k : Int) := by omega
          have HT := hid (show txtR (U.take (k + 1)) = txtR (U.take k) ++ pieceT r by
            rw [HTK.out]
            subst h0
            rw [List.take_zero, List.nil_append, txtR_one]
            rfl)
          clear h0
          by_cases h2 : 1 < r.2
          · have HI2 := hid (fun W => dec_int (z := r.1 + r.2 - 1) (by omega) (by omega) W)
            have hs2 := itoa_size (n := r.1 + r.2 - 1) (by omega) (by omega)
            have hw1 : IntKind.i64.wrap (r.1 + r.2) = r.1 + r.2 := by rw [IntKind.wrap_i64]; omega
            have hw2 : IntKind.i64.wrap (r.1 + r.2 - 1) = r.1 + r.2 - 1 := by rw [IntKind.wrap_i64]; omega
            have hpt : pieceT r = (itoaB r.1).data.toList ++ 45 :: (itoaB (r.1 + r.2 - 1)).data.toList := by unfold pieceT; rw [if_pos h2]; rfl
            rw [hpt] at HT
            clear hpt
            go_wp2_with fail
            refine (HI1.out _).mono ?_
            rintro e w2 ⟨rfl, n2⟩
            have hb2 := n2.blk (Blk.new wr #[.int .i64 r.1, .int .i64 r.2] 66)
            have x0 := hb2.cellv 0 rfl; have x1 := hb2.cellv 1 rfl; have xl := hb2.lt
            have N2 := hid (((Mod.refl (fun _ => False) wr).alloc (.cells #[.int .i64 r.1, .int .i64 r.2] 66)).trans n2)
            clear n2 hb2
            go_wp2_with fail
            refine (HI2.out _).mono ?_
            rintro e w3 ⟨rfl, n3⟩
            have N3 := hid ((HN.out.trans N2.out).trans n3)
            clear n3 x0 x1 xl
            go_wp2
            exact ⟨⟨k + 1, _, by simp, rfl, by omega, by rw [HT.out, ← HO.out]; simp, N3.out⟩, by simp [intOf]; omega⟩
          · have hpt : pieceT r = (itoaB r.1).data.toList := by unfold pieceT; rw [if_neg h2, List.append_nil]; rfl
            rw [hpt] at HT
            clear hpt
            go_wp2_with fail
            refine (HI1.out _).mono ?_
            rintro e w2 ⟨rfl, n2⟩
            have hb2 := n2.blk (Blk.new wr #[.int .i64 r.1, .int .i64 r.2] 66)
            have x0 := hb2.cellv 0 rfl; have x1 := hb2.cellv 1 rfl; have xl := hb2.lt
            have N2 := hid ((HN.out.trans ((Mod.refl (fun _ => False) wr).alloc (.cells #[.int .i64 r.1, .int .i64 r.2] 66))).trans n2)
            clear n2 hb2
            go_wp2
            exact ⟨⟨k + 1, _, by simp, rfl, by omega, by rw [HT.out, ← HO.out]; simp, N2.out⟩, by simp [intOf]; omega⟩
        · have hk0 : (0 : Int) < (k : Int) := by omega
          have HT := hid (show txtR (U.take (k + 1)) = txtR (U.take k) ++ 44 :: pieceT r by
            rw [HTK.out, txtR_snoc]
            intro q
            rw [List.take_eq_nil_iff] at q
            rcases q with q | q
            · exact h0 q
            · rw [q] at hlt
              simp at hlt)
          clear h0
          by_cases h2 : 1 < r.2
          · have HI2 := hid (fun W => dec_int (z := r.1 + r.2 - 1) (by omega) (by omega) W)
            have hs2 := itoa_size (n := r.1 + r.2 - 1) (by omega) (by omega)
            have hw1 : IntKind.i64.wrap (r.1 + r.2) = r.1 + r.2 := by rw [IntKind.wrap_i64]; omega
            have hw2 : IntKind.i64.wrap (r.1 + r.2 - 1) = r.1 + r.2 - 1 := by rw [IntKind.wrap_i64]; omega
            have hpt : pieceT r = (itoaB r.1).data.toList ++ 45 :: (itoaB (r.1 + r.2 - 1)).data.toList := by unfold pieceT; rw [if_pos h2]; rfl
            rw [hpt] at HT
            clear hpt
            go_wp2_with fail
            refine (HI1.out _).mono ?_
            rintro e w2 ⟨rfl, n2⟩
            have hb2 := n2.blk (Blk.new wr #[.int .i64 r.1, .int .i64 r.2] 66)
            have x0 := hb2.cellv 0 rfl; have x1 := hb2.cellv 1 rfl; have xl := hb2.lt
            have N2 := hid (((Mod.refl (fun _ => False) wr).alloc (.cells #[.int .i64 r.1, .int .i64 r.2] 66)).trans n2)
            clear n2 hb2
            go_wp2_with fail
            refine (HI2.out _).mono ?_
            rintro e w3 ⟨rfl, n3⟩
            have N3 := hid ((HN.out.trans N2.out).trans n3)
            clear n3 x0 x1 xl
            go_wp2
            exact ⟨⟨k + 1, _, by simp, rfl, by omega, by rw [HT.out, ← HO.out]; simp, N3.out⟩, by simp [intOf]; omega⟩
          · have hpt : pieceT r = (itoaB r.1).data.toList := by unfold pieceT; rw [if_neg h2, List.append_nil]; rfl
            rw [hpt] at HT
            clear hpt
            go_wp2_with fail
            refine (HI1.out _).mono ?_
            rintro e w2 ⟨rfl, n2⟩
            have hb2 := n2.blk (Blk.new wr #[.int .i64 r.1, .int .i64 r.2] 66)
            have x0 := hb2.cellv 0 rfl; have x1 := hb2.cellv 1 rfl; have xl := hb2.lt
            have N2 := hid ((HN.out.trans ((Mod.refl (fun _ => False) wr).alloc (.cells #[.int .i64 r.1, .int .i64 r.2] 66))).trans n2)
            clear n2 hb2
            go_wp2
            exact ⟨⟨k + 1, _, by simp, rfl, by omega, by rw [HT.out, ← HO.out]; simp, N2.out⟩, by simp [intOf]; omega⟩
    · obtain rfl : k = U.length := by omega
      rw [List.take_length] at HO
      have HB := hid (show b = mkB (txtR U) from bytes_ext HO.out)
      go_wp2
      go_ret2
      exact ⟨by rw [HB.out]; rfl, N1.out.trans HN.out⟩
end Go.Proofs.YtbgmkplpolgebaaGreatDoor

namespace Go.Proofs.YtbgmkplpolgebaaGreatDoor
set_option linter.unusedSimpArgs false
set_option linter.unusedVariables false
open Go.RowKit Go.Shelf

theorem dec_byte (m : Nat) (h : m ≤ 100000) (w : World) : Calls Tryz.prog 121 #[.int .i64 m] w fun e w' => e = .returned (.string (mkB (Lib.decDigits m))) ∧ New w w' := by
  have := decimal_nat m (by omega) w
  rw [show itoaB (m : Int) = mkB (Lib.decDigits m) by unfold itoaB; rw [itoa_nat]; rfl] at this
  exact this
theorem hexD_ext {k : Nat} (h : k < 16) : (⟨#[48, 49, 50, 51, 52, 53, 54, 55, 56, 57, 97, 98, 99, 100, 101, 102]⟩ : ByteArray).extract k (k + 1) = mkB [hexD k] := by
  have key : ∀ k : Nat, k < 16 → (⟨#[48, 49, 50, 51, 52, 53, 54, 55, 56, 57, 97, 98, 99, 100, 101, 102]⟩ : ByteArray).extract k (k + 1) = mkB [hexD k] := by decide +kernel
  exact key k h
theorem mkB_app (a b : List UInt8) : mkB a ++ mkB b = mkB (a ++ b) := by
  apply bytes_ext
  rw [ByteArray.data_append, Array.toList_append]
  rfl
set_option maxRecDepth 100000 in
set_option maxHeartbeats 1000000 in
theorem group_any (m : Nat) : m < 65536 → ∀ w : World, Calls Tryz.prog 159 #[.int .i64 m] w fun e w' => e = .returned (.string (mkB (hexG m))) ∧ w = w' := by
  induction m using Nat.strongRecOn with
  | ind m ih =>
    intro hm w
    obtain ⟨K, hK⟩ : ∃ K, K = m % 16 := ⟨_, rfl⟩
    have hk16 : K < 16 := by omega
    have hr2 : (m : Int) % 16 = (K : Int) := by omega
    have hr : ((m : Int)).tmod 16 = (K : Int) := by rw [Int.tmod_eq_emod_of_nonneg (by omega)]; omega
    have hx := hexD_ext hk16
    have hw : IntKind.i64.wrap ((K : Int) + 1) = (K : Int) + 1 := IntWalk.i64_in _ (by omega)
    have kn : ((K : Int) + 1).toNat = K + 1 := by omega
    by_cases h : m < 16
    · have hmm : K = m := by omega
      have HI := hid (show hexG m = [hexD K] by rw [hmm, hexG_one h])
      have hI : (m : Int) < 16 := by omega
      clear ih hK hmm h
      go_enter Tryz.func159, Tryz.ntmps159
      go_wp2
      go_ret
      exact ⟨ret_str (by rw [HI.out]), rfl⟩
    · have e16 : (m : Int) / 16 = ((m / 16 : Nat) : Int) := by omega
      have HI := hid (show hexG m = hexG (m / 16) ++ [hexD K] by rw [hK, hexG_more h])
      have IH := hid (ih (m / 16) (by omega) (by omega))
      have hs1 : (mkB (hexG (m / 16))).size ≤ 4 := by
        have := hexG_len (m / 16) (by omega)
        rw [show (mkB (hexG (m / 16))).size = (hexG (m / 16)).length from size_list _]
        exact this
      have hs2 : (mkB [hexD K]).size = 1 := rfl
      have hI : ¬ (m : Int) < 16 := by omega
      obtain ⟨Q, hQ⟩ : ∃ Q, Q = m / 16 := ⟨_, rfl⟩
      rw [← hQ] at e16 HI IH hs1
      clear ih hK h hQ
      go_enter Tryz.func159, Tryz.ntmps159
      go_wp2_with (go_at_call 159; refine (IH.out _).mono ?_; rintro e w1 ⟨rfl, rfl⟩)
      go_ret
      exact ⟨ret_str (by rw [HI.out, mkB_app]), rfl⟩
set_option maxRecDepth 100000 in
set_option maxHeartbeats 1000000 in
theorem rAdrValid_any (x : AdrV) (w : World) : Calls Tryz.prog 61 #[.agg #[.int .i64 x.fam, .string x.ip, .int .i64 x.port]] w fun e w' => e = .returned (.bool (adrOk x)) ∧ New w w' := by
  obtain ⟨fam, ip, port⟩ := x
  simp only
  have HV := hid (show adrOk ⟨fam, ip, port⟩ = (((fam == 4) && ((ip.size : Int) == 4) || (fam == 6) && ((ip.size : Int) == 16)) && decide (1 ≤ port) && decide (port ≤ 65535)) by
    unfold adrOk
    have h1 : ((ip.size : Int) == 4) = decide (ip.size = 4) := by rw [Bool.eq_iff_iff, beq_iff_eq, decide_eq_true_eq]; omega
    have h2 : ((ip.size : Int) == 16) = decide (ip.size = 16) := by rw [Bool.eq_iff_iff, beq_iff_eq, decide_eq_true_eq]; omega
    have h3 : (fam == 4) = decide (fam = 4) := by rw [Bool.eq_iff_iff, beq_iff_eq, decide_eq_true_eq]
    have h4 : (fam == 6) = decide (fam = 6) := by rw [Bool.eq_iff_iff, beq_iff_eq, decide_eq_true_eq]
    rw [h1, h2, h3, h4])
  have B0 := Blk.new w #[.int .i64 fam, .string ip, .int .i64 port] 64
  have c0 := B0.cellv 0 rfl; have c1 := B0.cellv 1 rfl; have c2 := B0.cellv 2 rfl
  clear B0
  have key : ∀ (a b c d e f : Bool), (fam == 4) = a → ((ip.size : Int) == 4) = b → (fam == 6) = c → ((ip.size : Int) == 16) = d → decide (1 ≤ port) = e → decide (port ≤ 65535) = f → Calls Tryz.prog 61 #[.agg #[.int .i64 fam, .string ip, .int .i64 port]] w fun e w' => e = .returned (.bool (adrOk ⟨fam, ip, port⟩)) ∧ New w w' := by
    intro a b c d e f ha hb hc hd he hf
    rw [ha, hb, hc, hd, he, hf] at HV
    have he2 : decide (port ≥ 1) = e := he
    cases a <;> cases b <;> cases c <;> cases d <;> cases e <;> cases f <;> (
      go_enter Tryz.func61, Tryz.ntmps61
      go_wp2
      go_ret
      exact ⟨ret_bool HV.out.symm, (Mod.refl _ _).alloc _⟩)
  exact key _ _ _ _ _ _ rfl rfl rfl rfl rfl rfl
end Go.Proofs.YtbgmkplpolgebaaGreatDoor
