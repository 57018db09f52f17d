/-
  Several texts in one, in their build order. The walk of the reference's Digits, of digits in their form. Conditions: the text is small. The walk of the reference's Cut of a text. Conditions: the text is small. A line told by its leading digits. Plain Lean, no program. No condition.
-/
import Derived.Test.YtnccfikimmolgaaGreatDoorM34
import Derived.Test.YtnccfikimmolgaaGreatDoorM21
namespace Go.Proofs.YtnccfikimmolgaaGreatDoor
set_option linter.unusedSimpArgs false
set_option linter.unusedVariables false
open Go.RowKit Go.Shelf

theorem decFrom_app (a : Nat) (x y : List UInt8) : decFrom a (x ++ y) = decFrom (decFrom a x) y := by
  unfold decFrom
  rw [List.foldl_append]
theorem decFrom_le : ∀ (y : List UInt8) (a : Nat), a ≤ decFrom a y
  | [], a => Nat.le_refl _
  | b :: y, a => by
    have h := decFrom_le y (a * 10 + (b.toNat - 48))
    show a ≤ decFrom (a * 10 + (b.toNat - 48)) y
    omega
theorem decVal_take (ds : List UInt8) (k : Nat) : decVal (ds.take k) ≤ decVal ds := by
  conv => rhs; rw [← List.take_append_drop k ds]
  unfold decVal
  rw [decFrom_app]
  exact decFrom_le _ _
theorem decVal_next (ds : List UInt8) (k : Nat) (hk : k < ds.length) : decVal (ds.take (k + 1)) = decVal (ds.take k) * 10 + (ds[k].toNat - 48) := by
  rw [List.take_add_one, List.getElem?_eq_getElem hk]
  unfold decVal
  rw [decFrom_app]
  rfl
def digR (ds : List UInt8) : Int := if decVal ds ≤ 65536 then (decVal ds : Int) else -1
set_option maxRecDepth 100000 in
set_option maxHeartbeats 4000000 in
theorem rDigits_any (t : ByteArray) (w : World) (hs : t.size ≤ 4000000000) (hd : t.data.toList.all isDig = true) (hc : canon t.data.toList = true) :
    Calls Tryz.prog 71 #[.string t, .int .i64 65536] w fun e w' => e = .returned (.int .i64 (digR t.data.toList)) ∧ New w w' := by
  obtain ⟨V, hV⟩ : ∃ V, V = digR t.data.toList := ⟨_, rfl⟩
  rw [← hV]
  have HV := hid hV
  clear hV
  have hpos : 0 < t.size := by
    rcases Nat.eq_zero_or_pos t.size with q | q
    · have h0 : t.data.toList = [] := List.eq_nil_of_length_eq_zero (by rw [Array.length_toList]; exact q)
      rw [h0] at hc
      exact absurd hc (by decide)
    · exact q
  obtain ⟨c1, c2⟩ := canon_cases t hpos
  rw [c2] at hc
  have hlen : t.data.toList.length = t.size := by rw [Array.length_toList]; rfl
  have HD : Hid (∀ (k : Nat) (hk : k < t.size), 48 ≤ t[k].toNat ∧ t[k].toNat ≤ 57 ∧ decVal (t.data.toList.take (k + 1)) = decVal (t.data.toList.take k) * 10 + (t[k].toNat - 48)) := hid (fun k hk => by
    have hb := byte_at' t hk
    have hm : t[k] ∈ t.data.toList := List.mem_of_getElem? hb
    have h1 := List.all_eq_true.1 hd _ hm
    simp only [isDig, Bool.and_eq_true, decide_eq_true_eq] at h1
    refine ⟨h1.1, h1.2, ?_⟩
    have h2 := decVal_next t.data.toList k (by omega)
    rw [List.getElem?_eq_getElem (by omega)] at hb
    rw [Option.some.inj hb] at h2
    exact h2)
  have HZ : Hid (∀ k : Nat, decVal (t.data.toList.take k) ≤ decVal t.data.toList) := hid (decVal_take _)
  have HALL : Hid (decVal (t.data.toList.take t.size) = decVal t.data.toList) := hid (by rw [List.take_of_length_le (by omega)])
  have h48 : (t.toList == [48]) = true → t.size = 1 := by
    intro q
    have q2 : t.toList = [48] := by simpa using q
    rw [ByteArray.toList_eq] at q2
    rw [← hlen, q2]
    rfl
  cases b2 : ((t[0].toNat : Int) == 48) with
  | true =>
    have h1 : t.size = 1 := by
      rw [b2] at hc
      apply h48
      simpa using hc
    have h1f : ¬ (1 : Int) < (t.size : Int) := by omega
    clear hd hc h48 c2
    go_enter Tryz.func71, Tryz.ntmps71
    go_wp2
    go_loopw [22, 5] (fun i x wr => ∃ (k n : Nat), i = .int .i64 k ∧ x = .int .i64 n ∧ k ≤ t.size ∧ n = decVal (t.data.toList.take k) ∧ n ≤ 65536 ∧ New w wr) (fun i _ _ => t.size - (intOf i).toNat)
    case atStart => exact ⟨0, 0, rfl, rfl, by omega, rfl, by omega, Mod.refl _ _⟩
    case round =>
      obtain ⟨k, n, rfl, rfl, hk, hn, hm, hN⟩ := hrel
      have HN := hid hN
      have HNV := hid hn
      clear hN hn
      by_cases hlt : k < t.size
      · obtain ⟨d0, d1, d2⟩ := HD.out k hlt
        have hz := HZ.out (k + 1)
        rw [d2, ← HNV.out] at hz
        rw [← HNV.out] at d2
        have HD2 := hid d2
        clear d2
        obtain ⟨D, hD⟩ : ∃ D : Nat, (t[k].toNat : Int) = (D : Int) + 48 := ⟨t[k].toNat - 48, by omega⟩
        have hDD : t[k].toNat - 48 = D := by omega
        rw [hDD] at hz HD2
        have hlo : ¬ (t[k].toNat : Int) < 48 := by omega
        have hhi : ¬ (57 : Int) < (t[k].toNat : Int) := by omega
        have hD9 : D ≤ 9 := by omega
        go_wp2
        · have hv : V = -1 := by rw [HV.out, digR, if_neg (by omega)]
          rw [hv]
          go_ret
          exact ⟨rfl, HN.out⟩
        · exact ⟨⟨k + 1, n * 10 + D, by simp, by simp, by omega, HD2.out.symm, by omega, HN.out⟩, by simp [intOf]; omega⟩
      · obtain rfl : k = t.size := by omega
        have hn := HNV.out
        rw [HALL.out] at hn
        have hv : V = n := by rw [HV.out, digR, if_pos (by omega), hn]
        have HVE := hid hv
        clear hn hv
        go_wp2
        go_ret
        exact ⟨by rw [HVE.out]; rfl, HN.out⟩
  | false =>
    clear hd hc h48 c2
    go_enter Tryz.func71, Tryz.ntmps71
    go_wp2
    go_loopw [22, 5] (fun i x wr => ∃ (k n : Nat), i = .int .i64 k ∧ x = .int .i64 n ∧ k ≤ t.size ∧ n = decVal (t.data.toList.take k) ∧ n ≤ 65536 ∧ New w wr) (fun i _ _ => t.size - (intOf i).toNat)
    case atStart => exact ⟨0, 0, rfl, rfl, by omega, rfl, by omega, Mod.refl _ _⟩
    case round =>
      obtain ⟨k, n, rfl, rfl, hk, hn, hm, hN⟩ := hrel
      have HN := hid hN
      have HNV := hid hn
      clear hN hn
      by_cases hlt : k < t.size
      · obtain ⟨d0, d1, d2⟩ := HD.out k hlt
        have hz := HZ.out (k + 1)
        rw [d2, ← HNV.out] at hz
        rw [← HNV.out] at d2
        have HD2 := hid d2
        clear d2
        obtain ⟨D, hD⟩ : ∃ D : Nat, (t[k].toNat : Int) = (D : Int) + 48 := ⟨t[k].toNat - 48, by omega⟩
        have hDD : t[k].toNat - 48 = D := by omega
        rw [hDD] at hz HD2
        have hlo : ¬ (t[k].toNat : Int) < 48 := by omega
        have hhi : ¬ (57 : Int) < (t[k].toNat : Int) := by omega
        have hD9 : D ≤ 9 := by omega
        go_wp2
        · have hv : V = -1 := by rw [HV.out, digR, if_neg (by omega)]
          rw [hv]
          go_ret
          exact ⟨rfl, HN.out⟩
        · exact ⟨⟨k + 1, n * 10 + D, by simp, by simp, by omega, HD2.out.symm, by omega, HN.out⟩, by simp [intOf]; omega⟩
      · obtain rfl : k = t.size := by omega
        have hn := HNV.out
        rw [HALL.out] at hn
        have hv : V = n := by rw [HV.out, digR, if_pos (by omega), hn]
        have HVE := hid hv
        clear hn hv
        go_wp2
        go_ret
        exact ⟨by rw [HVE.out]; rfl, HN.out⟩
end Go.Proofs.YtnccfikimmolgaaGreatDoor

namespace Go.Proofs.YtnccfikimmolgaaGreatDoor
set_option linter.unusedSimpArgs false
set_option linter.unusedVariables false
open Go.RowKit Go.Shelf

theorem info_str : (Tryz.prog.info? 9).map (fun i => (i.zero, i.size, i.bytes)) = some (some (.string ⟨#[]⟩), 1, 16) := by kernel_rfl
/-- The strings that a call made. -/
def OwnT (w : World) (base : Nat) (v : Value) (P : List ByteArray) : Prop := w.ownsRow base 9 1 v P.length (P.map Value.string)
theorem OwnT.nil (w : World) (base : Nat) : OwnT w base (.slice none 0 0) [] := World.ownsRow_nil _ _ _ _
theorem OwnT.new {w w' : World} {base : Nat} {v : Value} {P : List ByteArray} (h : OwnT w base v P) (hn : New w w') : OwnT w' base v P := by
  refine World.ownsRow.kept h (row := none) ⟨hn.os, hn.tape, hn.output, hn.size, fun k hk _ => hn.block k hk (fun x => x)⟩ ?_
  cases e : v.ownBlock with
  | none => exact .inl rfl
  | some b => exact .inr (by simp)
theorem own_pushT {w : World} {base : Nat} {v : Value} {P : List ByteArray} {x : ByteArray} {n : Nat} {cs : List Value} (h : w.ownsRow base 9 1 v n cs) (hn : n = P.length + 1) (hc : cs = P.map Value.string ++ [.string x]) : OwnT w base v (P ++ [x]) := by
  subst hn hc
  unfold OwnT
  rw [List.length_append, List.map_append]
  exact h
/-- The text between two places. -/
theorem ext_list (t : ByteArray) (b k : Nat) : (t.extract b k).data.toList = (t.data.toList.drop b).take (k - b) := by
  rw [ByteArray.data_extract, Array.toList_extract]
theorem cut_free {c : UInt8} {s : List UInt8} {b : Nat} (h : c ∉ s.drop b) : pieces [] c (s.drop b) = [s.drop b] := pieces_free _ h
theorem cut_step {c : UInt8} {s : List UInt8} {b k : Nat} (hb : b ≤ k) (hk : k < s.length) (he : s[k] = c) (h : c ∉ (s.drop b).take (k - b)) : pieces [] c (s.drop b) = (s.drop b).take (k - b) :: pieces [] c (s.drop (k + 1)) := by
  have e : s.drop b = (s.drop b).take (k - b) ++ c :: s.drop (k + 1) := by
    conv => lhs; rw [← List.take_append_drop (k - b) (s.drop b)]
    rw [List.drop_drop, show b + (k - b) = k by omega, List.drop_eq_getElem_cons hk, he]
  conv => lhs; rw [e]
  exact pieces_app _ _ h
theorem cut_more {c : UInt8} {s : List UInt8} {b k : Nat} (hb : b ≤ k) (hk : k < s.length) (he : s[k] ≠ c) (h : c ∉ (s.drop b).take (k - b)) : c ∉ (s.drop b).take (k + 1 - b) := by
  rw [show k + 1 - b = (k - b) + 1 by omega, List.take_add_one, List.getElem?_drop, show b + (k - b) = k by omega, List.getElem?_eq_getElem hk]
  simp only [Option.toList_some, List.mem_append, List.mem_singleton, not_or]
  exact ⟨h, fun q => he q.symm⟩
theorem mk_ext {t : ByteArray} {b k : Nat} {x : List UInt8} (h : (t.data.toList.drop b).take (k - b) = x) : mkB x = t.extract b k := by
  rw [← h, ← ext_list]
  exact data_mkB _
set_option maxRecDepth 100000 in
set_option maxHeartbeats 4000000 in
theorem rCutS_any (t : ByteArray) (c : UInt8) (w : World) (hs : t.size ≤ 4000000000) :
    Calls Tryz.prog 72 #[.string t, .int .u8 (c.toNat : Int)] w fun e w' => ∃ a d, e = .returned (.slice a ((pieces [] c t.data.toList).map mkB).length d) ∧ StrsAt w' a d ((pieces [] c t.data.toList).map mkB) ∧ (∀ x, a = some x → w.heap.size ≤ x.block ∧ x.block < w'.heap.size) ∧ New w w' := by
  have hlen : t.data.toList.length = t.size := by rw [Array.length_toList]; rfl
  obtain ⟨Q, hQ⟩ : ∃ Q, Q = (pieces [] c t.data.toList).map mkB := ⟨_, rfl⟩
  have hsm : ∀ x ∈ Q, x.size ≤ maxLen := by
    intro x hx
    rw [hQ] at hx
    obtain ⟨y, hy, rfl⟩ := List.mem_map.1 hx
    have := piece_le [] (by simp) c t.data.toList y hy
    have e : (mkB y).size = y.length := size_list y
    unfold maxLen
    omega
  rw [← hQ]
  have HQ := hid hQ
  have HSM := hid hsm
  clear hQ hsm
  obtain ⟨i1, hj, hy0, hy1, hy2⟩ := info_parts info_str
  go_enter Tryz.func72, Tryz.ntmps72
  go_wp2
  go_loopw [10, 5, 6] (fun i o from' wr => ∃ (k b : Nat) (v : Value) (P : List ByteArray), i = .int .i64 k ∧ v = o ∧ from' = .int .i64 b ∧ b ≤ k ∧ k ≤ t.size ∧ P.length ≤ k ∧ P ++ (pieces [] c (t.data.toList.drop b)).map mkB = Q ∧ c ∉ (t.data.toList.drop b).take (k - b) ∧ OwnT wr w.heap.size v P ∧ New w wr) (fun i _ _ _ => t.size - (intOf i).toNat)
  case atStart => exact ⟨0, 0, _, [], rfl, rfl, rfl, by omega, by omega, by simp, by rw [HQ.out]; rfl, by simp, OwnT.nil _ _, Mod.refl _ _⟩
  case round =>
    obtain ⟨k, b, v, P, rfl, rfl, rfl, hbk, hk, hPl, hP, hcn, hO, hn⟩ := hrel
    have HN := hid hn
    have HO := hid hO
    have HP := hid hP
    have HCN := hid hcn
    clear hn hO hP hcn
    by_cases hlt : k < t.size
    · have hb := byte_at' t hlt
      rw [List.getElem?_eq_getElem (by omega)] at hb
      have HB := hid (Option.some.inj hb)
      clear hb
      by_cases hc : t[k] = c
      · have HST := hid (cut_step (c := c) (s := t.data.toList) hbk (by omega) (by rw [HB.out, hc]) HCN.out)
        have hcI : (t[k].toNat : Int) = (c.toNat : Int) := by rw [hc]
        clear hc
        go_wp2_with (at_builtin; refine wpList_append_own_at _ rfl _ _ 49 rfl w.heap.size 9 i1 _ 1 16 Tryz.underlying49 hj hy0 hy1 hy2 rfl (by decide) v P.length (P.map Value.string) rfl ?owA ⟨wr.heap.size, 0, none⟩ 1 1 [.string (t.extract b k)] rfl rfl ?hnA ?h1A ?h63A ?hbyA ?hbaA ?_)
        case owA => exact HO.out.new ((Mod.refl _ _).alloc _)
        case hnA =>
          intro j u hj
          rw [add_none]
          match j, hj with
          | 0, hj => simp at hj; subst hj; exact (Blk.newAt (by simp)).cellv 0 rfl
        case h1A => intro u hu; simp at hu; subst hu; rfl
        case h63A => unfold maxLen; omega
        case hbyA => omega
        case hbaA => have := HN.out.size; simp at *; omega
        intro o3 w3 r3 g3 _ _
        have O3 : Hid (OwnT w3 w.heap.size o3 (P ++ [t.extract b k])) := hid (own_pushT r3 rfl rfl)
        have N3 : Hid (New w w3) := hid (New.grown (HN.out.alloc _) g3 (fun j hj => (World.ownsRow.lt HO.out j hj).1))
        clear r3 g3
        go_wp2
        exact ⟨⟨k + 1, k + 1, _, _, by simp, rfl, by simp, by omega, by omega, by simp; omega, by rw [← HP.out, HST.out, List.map_cons, mk_ext rfl, List.append_assoc]; rfl, by simp, O3.out, N3.out⟩, by simp [intOf]; omega⟩
      · have HMO := hid (cut_more (c := c) (s := t.data.toList) hbk (by omega) (by rw [HB.out]; exact hc) HCN.out)
        have hcI : ¬ (t[k].toNat : Int) = (c.toNat : Int) := fun q => hc (UInt8.toNat_inj.1 (by omega))
        clear hc
        go_wp2
        exact ⟨⟨k + 1, b, _, P, by simp, rfl, rfl, by omega, by omega, by omega, HP.out, HMO.out, HO.out, HN.out⟩, by simp [intOf]; omega⟩
    · obtain rfl : k = t.size := by omega
      have hcn := HCN.out
      rw [List.take_of_length_le (by rw [List.length_drop]; omega)] at hcn
      have HQ2 : Hid (P ++ [t.extract b t.size] = Q) := hid (by
        have e : (t.data.toList.drop b).take (t.size - b) = t.data.toList.drop b := List.take_of_length_le (by rw [List.length_drop]; omega)
        rw [← HP.out, cut_free hcn, List.map_cons, mk_ext e, List.map_nil])
      clear hcn
      go_wp2_with (at_builtin; refine wpList_append_own_at _ rfl _ _ 49 rfl w.heap.size 9 i1 _ 1 16 Tryz.underlying49 hj hy0 hy1 hy2 rfl (by decide) v P.length (P.map Value.string) rfl ?owB ⟨wr.heap.size, 0, none⟩ 1 1 [.string (t.extract b t.size)] rfl rfl ?hnB ?h1B ?h63B ?hbyB ?hbaB ?_)
      case owB => exact HO.out.new ((Mod.refl _ _).alloc _)
      case hnB =>
        intro j u hj
        rw [add_none]
        match j, hj with
        | 0, hj => simp at hj; subst hj; exact (Blk.newAt (by simp)).cellv 0 rfl
      case h1B => intro u hu; simp at hu; subst hu; rfl
      case h63B => unfold maxLen; omega
      case hbyB => omega
      case hbaB => have := HN.out.size; simp at *; omega
      intro o3 w3 r3 g3 _ _
      have O3 : Hid (OwnT w3 w.heap.size o3 (P ++ [t.extract b t.size])) := hid (own_pushT r3 rfl rfl)
      have N3 : Hid (New w w3) := hid (New.grown (HN.out.alloc _) g3 (fun j hj => (World.ownsRow.lt HO.out j hj).1))
      clear r3 g3
      have O4 : OwnT w3 w.heap.size o3 Q := HQ2.out ▸ O3.out
      obtain ⟨a, d, rfl, hst, hf⟩ := owns_strs (base := w.heap.size) (p := Q) O4 HSM.out
      have HSQ := hid hst
      have HF := hid hf
      clear O4 hst hf
      go_wp2
      go_ret
      exact ⟨a, d, rfl, HSQ.out, HF.out, N3.out⟩
end Go.Proofs.YtnccfikimmolgaaGreatDoor

namespace Go.Proofs.YtnccfikimmolgaaGreatDoor
set_option linter.unusedSimpArgs false
set_option linter.unusedVariables false

/-- What stands behind the star is a line's form. -/
def condP (R : List UInt8) : Bool := (cutB 32 R).2.2 && (cutB 32 R).1.all isDig && canon (cutB 32 R).1
theorem lineP_cond (L : List UInt8) : lineP L = if condP (restOfL L) then some (padOfL L, (cutB 32 (restOfL L)).1, (cutB 32 (restOfL L)).2.1) else none := rfl
theorem cutB_true {c : UInt8} : ∀ {R : List UInt8}, (cutB c R).2.2 = true → R = (cutB c R).1 ++ c :: (cutB c R).2.1 ∧ c ∉ (cutB c R).1
  | [], h => by simp [cutB] at h
  | b :: l, h => by
    by_cases e : b = c
    · subst e
      simp [cutB]
    · rw [cutB, if_neg e] at h
      obtain ⟨h1, h2⟩ := cutB_true (R := l) h
      rw [cutB, if_neg e]
      refine ⟨by rw [List.cons_append, ← h1], ?_⟩
      simp only [List.mem_cons, not_or]
      exact ⟨fun q => e q.symm, h2⟩
/-- n is the number of leading digits. -/
structure Lead (R : List UInt8) (n : Nat) : Prop where
  le : n ≤ R.length
  dig : ∀ (j : Nat) (hj : j < R.length), j < n → isDig R[j] = true
  stop : ∀ (h : n < R.length), isDig R[n] = false
theorem lead_all {R : List UInt8} {n : Nat} (h : Lead R n) : (R.take n).all isDig = true := by
  rw [List.all_eq_true]
  intro x hx
  obtain ⟨j, hj, rfl⟩ := List.mem_iff_getElem.1 hx
  rw [List.getElem_take]
  have hj' : j < n ∧ j < R.length := by rw [List.length_take] at hj; omega
  exact h.dig j hj'.2 hj'.1
theorem lead_cut {R : List UInt8} {n : Nat} (h : Lead R n) (hn : n < R.length) (h32 : R[n] = 32) : cutB 32 R = (R.take n, R.drop (n + 1), true) := by
  have e : R = R.take n ++ 32 :: R.drop (n + 1) := by
    conv => lhs; rw [← List.take_append_drop n R, List.drop_eq_getElem_cons hn, h32]
  have hf : (32 : UInt8) ∉ R.take n := fun q => by
    have := List.all_eq_true.1 (lead_all h) _ q
    exact absurd this (by decide)
  conv => lhs; rw [e]
  exact cutB_app _ _ hf
theorem lead_of_cond {R : List UInt8} {n : Nat} (h : Lead R n) (hc : condP R = true) : ∃ hn : n < R.length, R[n] = 32 := by
  unfold condP at hc
  simp only [Bool.and_eq_true] at hc
  obtain ⟨h1, -⟩ := cutB_true hc.1.1
  have hd := hc.1.2
  obtain ⟨A, hA⟩ : ∃ A, A = (cutB 32 R).1 := ⟨_, rfl⟩
  obtain ⟨B, hB⟩ : ∃ B, B = (cutB 32 R).2.1 := ⟨_, rfl⟩
  rw [← hA, ← hB] at h1
  rw [← hA] at hd
  have e : n = A.length := by
    rcases Nat.lt_trichotomy n A.length with q | q | q
    · have hl : n < R.length := by rw [h1, List.length_append]; omega
      have hs := h.stop hl
      have : R[n] ∈ A := by
        have e1 : R[n]? = A[n]? := by rw [h1, List.getElem?_append_left q]
        rw [List.getElem?_eq_getElem hl] at e1
        exact List.mem_of_getElem? e1.symm
      have := List.all_eq_true.1 hd _ this
      rw [hs] at this
      cases this
    · exact q
    · have hl : A.length < R.length := by rw [h1, List.length_append, List.length_cons]; omega
      have hs := h.dig A.length hl q
      have e1 : R[A.length]? = some 32 := by rw [h1, List.getElem?_append_right (Nat.le_refl _)]; simp
      rw [List.getElem?_eq_getElem hl] at e1
      rw [Option.some.inj e1] at hs
      exact absurd hs (by decide)
  have hl : n < R.length := by rw [e, h1, List.length_append, List.length_cons]; omega
  refine ⟨hl, ?_⟩
  have e1 : R[n]? = some 32 := by rw [e, h1, List.getElem?_append_right (Nat.le_refl _)]; simp
  rw [List.getElem?_eq_getElem hl] at e1
  exact Option.some.inj e1
theorem cond_at {R : List UInt8} {n : Nat} (h : Lead R n) (hn : n < R.length) (h32 : R[n] = 32) : condP R = canon (R.take n) := by
  unfold condP
  rw [lead_cut h hn h32]
  simp only [lead_all h, Bool.true_and]
theorem canon_zero (R : List UInt8) : canon (R.take 0) = false := by simp [canon]
theorem canon_take {R : List UInt8} {n : Nat} (h0 : 0 < n) (hn : n < R.length) : canon (R.take n) = (!decide (R[0]'(by omega) = 48) || decide (n = 1)) := by
  cases R with
  | nil => simp at hn
  | cons x r =>
    obtain ⟨m, rfl⟩ : ∃ m, n = m + 1 := ⟨n - 1, by omega⟩
    rw [List.take_succ_cons]
    unfold canon
    simp only [List.getElem_cons_zero, List.head?_cons, Option.some.injEq, List.cons_ne_nil, decide_false, Bool.not_false, Bool.true_and, reduceCtorEq]
    by_cases hx : x = 48
    · subst hx
      cases m with
      | zero => simp
      | succ m =>
        cases r with
        | nil => simp at hn
        | cons y r => simp
    · simp [hx]
end Go.Proofs.YtnccfikimmolgaaGreatDoor
