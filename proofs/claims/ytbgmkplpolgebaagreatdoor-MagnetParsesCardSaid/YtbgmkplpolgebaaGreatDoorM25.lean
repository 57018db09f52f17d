/-
  Several texts in one, in their build order. Texts cut: the library's Split and Cut at a byte, the reference's Cut and Digits. Conditions: texts are small; the library's variables are as laid. The walks of number and Text (package bits). Conditions: texts are small; the field is right; the library's variables are as laid.
-/
import Derived.Test.YtbgmkplpolgebaaGreatDoorM24
import Derived.Test.YtbgmkplpolgebaaGreatDoorM7
import Derived.Test.YtbgmkplpolgebaaGreatDoorM18
import Derived.Test.YtbgmkplpolgebaaGreatDoorM6
import Derived.Maps.AppendAt
import Derived.Test.YtbgmkplpolgebaaGreatDoorM22
import Derived.Test.YtbgmkplpolgebaaGreatDoorM13
namespace Go.Proofs.YtbgmkplpolgebaaGreatDoor
set_option linter.unusedSimpArgs false
set_option linter.unusedVariables false
open Go.RowKit Go.Shelf

theorem alloc_strs (w : World) (p : List ByteArray) (hp : p ≠ []) (hl : p.length ≤ maxLen) (hs : ∀ s ∈ p, s.size ≤ maxLen) : StrsAt (w.alloc (.cells (p.map Value.string).toArray 9)) (some ⟨w.heap.size, 0, none⟩) p.length p := by
  refine ⟨Nat.le_refl _, hl, hs, .inr ⟨w.heap.size, 0, rfl, by simp, fun i s hi => ?_⟩⟩
  refine (Blk.new w (p.map Value.string).toArray 9).cellv _ ?_
  rw [Nat.zero_add, List.getElem?_toArray, List.getElem?_map, hi]
  rfl
theorem split_c (c : UInt8) (t : ByteArray) (w : World) (hv : VarP w) (hr : t.size ≤ 4000000000) :
    Calls Tryz.prog 24 #[.string t, .string ⟨#[c]⟩] w fun e w' => e = .returned (.slice (some ⟨w.heap.size, 0, none⟩) ((pieces [] c t.data.toList).map mkB).length ((pieces [] c t.data.toList).map mkB).length) ∧ StrsAt w' (some ⟨w.heap.size, 0, none⟩) ((pieces [] c t.data.toList).map mkB).length ((pieces [] c t.data.toList).map mkB) ∧ New w w' := by
  obtain ⟨m, hm⟩ := hv.max
  have hsz : t.data.toList.length = t.size := by rw [Array.length_toList]; rfl
  have hP : Lib.splitB ⟨#[c]⟩ 0 (Lib.countB t ⟨#[c]⟩) t = (pieces [] c t.data.toList).map mkB := by
    rw [countB_one]
    exact splitB_pieces c 0 (by omega) t
  have hL : Lib.countB t ⟨#[c]⟩ + 1 = ((pieces [] c t.data.toList).map mkB).length := by
    rw [countB_one, List.length_map, pieces_len]
  refine (Tryz.strings_Split t ⟨#[c]⟩ m w (by omega) hm (Nat.le_refl 1)).mono ?_
  rintro e w' ⟨rfl, rfl⟩
  rw [hL, hP]
  refine ⟨rfl, alloc_strs w _ ?_ ?_ ?_, (Mod.refl _ _).alloc _⟩
  · intro q
    rw [q] at hL
    simp at hL
  · rw [← hL, countB_one]
    have := List.count_le_length (l := t.data.toList) (a := c)
    unfold maxLen
    omega
  · intro s hs
    obtain ⟨x, hx, rfl⟩ := List.mem_map.1 hs
    have := piece_le [] (by simp) c t.data.toList x hx
    have e : (mkB x).size = x.length := size_list x
    unfold maxLen
    omega
theorem cut_c (c : UInt8) (t : ByteArray) (w : World) (hv : VarP w) (hr : t.size ≤ 4000000000) :
    Calls Tryz.prog 25 #[.string t, .string ⟨#[c]⟩] w fun e w' => e = .returned (.tuple #[.string (mkB (cutB c t.data.toList).1), .string (mkB (cutB c t.data.toList).2.1), .bool (cutB c t.data.toList).2.2]) ∧ New w w' := by
  obtain ⟨m, hm⟩ := hv.max
  refine (Tryz.strings_Cut t ⟨#[c]⟩ m w (by omega) hm).mono ?_
  rintro e w' ⟨rfl, n, rfl⟩
  refine ⟨?_, Mod.drewN (Mod.refl _ _) n⟩
  have e : Lib.cut t.data.toList (⟨#[c]⟩ : ByteArray).data.toList = cutB c t.data.toList := cut_one c t.data.toList
  rw [e]
  rfl
theorem owns_strs {w : World} {base : Nat} {v : Value} {p : List ByteArray} (h : w.ownsRow base 9 1 v p.length (p.map Value.string)) (hs : ∀ s ∈ p, s.size ≤ maxLen) : ∃ a c, v = .slice a p.length c ∧ StrsAt w a c p ∧ ∀ x, a = some x → base ≤ x.block ∧ x.block < w.heap.size := by
  rcases h.2 with ⟨rfl, hn⟩ | ⟨g, cap, cur, rfl, hbg, hg, hnc, hcm, hcs, htake⟩
  · have : p = [] := List.eq_nil_of_length_eq_zero hn
    subst this
    exact ⟨none, 0, rfl, ⟨by simp, by simp [maxLen], by simp, .inl rfl⟩, by simp⟩
  · have hlt := (Array.getElem?_eq_some_iff.1 hg).1
    refine ⟨some ⟨g, 0, none⟩, cap, rfl, ⟨hnc, hcm, hs, .inr ⟨g, 0, rfl, hlt, fun i s hi => ?_⟩⟩, fun x hx => ?_⟩
    · have h1 := h.cells (g := g) rfl i (.string s) (by simp [hi])
      rw [add_none] at h1
      exact h1
    · simp at hx
      subst hx
      exact ⟨hbg, hlt⟩
theorem info_str : (Tryz.prog.info? 9).map (fun i => (i.zero, i.size, i.bytes)) = some (some (.string ⟨#[]⟩), 1, 16) := by kernel_rfl
/-- The strings that a call made. -/
def OwnT (w : World) (base : Nat) (v : Value) (P : List ByteArray) : Prop := w.ownsRow base 9 1 v P.length (P.map Value.string)
theorem OwnT.nil (w : World) (base : Nat) : OwnT w base (.slice none 0 0) [] := World.ownsRow_nil _ _ _ _
theorem OwnT.new {w w' : World} {base : Nat} {v : Value} {P : List ByteArray} (h : OwnT w base v P) (hn : New w w') : OwnT w' base v P := by
  refine World.ownsRow.kept h (row := none) ⟨hn.os, hn.tape, hn.output, hn.size, fun k hk _ => hn.block k hk (fun x => x)⟩ ?_
  cases e : v.ownBlock with
  | none => exact .inl rfl
  | some b => exact .inr (by simp)
theorem own_pushT {w : World} {base : Nat} {v : Value} {P : List ByteArray} {x : ByteArray} {n : Nat} {cs : List Value} (h : w.ownsRow base 9 1 v n cs) (hn : n = P.length + 1) (hc : cs = P.map Value.string ++ [.string x]) : OwnT w base v (P ++ [x]) := by
  subst hn hc
  unfold OwnT
  rw [List.length_append, List.map_append]
  exact h
/-- The text between two places. -/
theorem ext_list (t : ByteArray) (b k : Nat) : (t.extract b k).data.toList = (t.data.toList.drop b).take (k - b) := by
  rw [ByteArray.data_extract, Array.toList_extract]
theorem cut_free {c : UInt8} {s : List UInt8} {b : Nat} (h : c ∉ s.drop b) : pieces [] c (s.drop b) = [s.drop b] := pieces_free _ h
theorem cut_step {c : UInt8} {s : List UInt8} {b k : Nat} (hb : b ≤ k) (hk : k < s.length) (he : s[k] = c) (h : c ∉ (s.drop b).take (k - b)) : pieces [] c (s.drop b) = (s.drop b).take (k - b) :: pieces [] c (s.drop (k + 1)) := by
  have e : s.drop b = (s.drop b).take (k - b) ++ c :: s.drop (k + 1) := by
    conv => lhs; rw [← List.take_append_drop (k - b) (s.drop b)]
    rw [List.drop_drop, show b + (k - b) = k by omega, List.drop_eq_getElem_cons hk, he]
  conv => lhs; rw [e]
  exact pieces_app _ _ h
theorem cut_more {c : UInt8} {s : List UInt8} {b k : Nat} (hb : b ≤ k) (hk : k < s.length) (he : s[k] ≠ c) (h : c ∉ (s.drop b).take (k - b)) : c ∉ (s.drop b).take (k + 1 - b) := by
  rw [show k + 1 - b = (k - b) + 1 by omega, List.take_add_one, List.getElem?_drop, show b + (k - b) = k by omega, List.getElem?_eq_getElem hk]
  simp only [Option.toList_some, List.mem_append, List.mem_singleton, not_or]
  exact ⟨h, fun q => he q.symm⟩
theorem mk_ext {t : ByteArray} {b k : Nat} {x : List UInt8} (h : (t.data.toList.drop b).take (k - b) = x) : mkB x = t.extract b k := by
  rw [← h, ← ext_list]
  exact data_mkB _
set_option maxRecDepth 100000 in
set_option maxHeartbeats 4000000 in
theorem rCutS_any (t : ByteArray) (c : UInt8) (w : World) (hs : t.size ≤ 4000000000) :
    Calls Tryz.prog 28 #[.string t, .int .u8 (c.toNat : Int)] w fun e w' => ∃ a d, e = .returned (.slice a ((pieces [] c t.data.toList).map mkB).length d) ∧ StrsAt w' a d ((pieces [] c t.data.toList).map mkB) ∧ (∀ x, a = some x → w.heap.size ≤ x.block ∧ x.block < w'.heap.size) ∧ New w w' := by
  have hlen : t.data.toList.length = t.size := by rw [Array.length_toList]; rfl
  obtain ⟨Q, hQ⟩ : ∃ Q, Q = (pieces [] c t.data.toList).map mkB := ⟨_, rfl⟩
  have hsm : ∀ x ∈ Q, x.size ≤ maxLen := by
    intro x hx
    rw [hQ] at hx
    obtain ⟨y, hy, rfl⟩ := List.mem_map.1 hx
    have := piece_le [] (by simp) c t.data.toList y hy
    have e : (mkB y).size = y.length := size_list y
    unfold maxLen
    omega
  rw [← hQ]
  have HQ := hid hQ
  have HSM := hid hsm
  clear hQ hsm
  obtain ⟨i1, hj, hy0, hy1, hy2⟩ := info_parts info_str
  go_enter Tryz.func28, Tryz.ntmps28
  go_wp2
  go_loopw [10, 5, 6] (fun i o from' wr => ∃ (k b : Nat) (v : Value) (P : List ByteArray), i = .int .i64 k ∧ v = o ∧ from' = .int .i64 b ∧ b ≤ k ∧ k ≤ t.size ∧ P.length ≤ k ∧ P ++ (pieces [] c (t.data.toList.drop b)).map mkB = Q ∧ c ∉ (t.data.toList.drop b).take (k - b) ∧ OwnT wr w.heap.size v P ∧ New w wr) (fun i _ _ _ => t.size - (intOf i).toNat)
  case atStart => exact ⟨0, 0, _, [], rfl, rfl, rfl, by omega, by omega, by simp, by rw [HQ.out]; rfl, by simp, OwnT.nil _ _, Mod.refl _ _⟩
  case round =>
    obtain ⟨k, b, v, P, rfl, rfl, rfl, hbk, hk, hPl, hP, hcn, hO, hn⟩ := hrel
    have HN := hid hn
    have HO := hid hO
    have HP := hid hP
    have HCN := hid hcn
    clear hn hO hP hcn
    by_cases hlt : k < t.size
    · have hb := byte_at' t hlt
      rw [List.getElem?_eq_getElem (by omega)] at hb
      have HB := hid (Option.some.inj hb)
      clear hb
      by_cases hc : t[k] = c
      · have HST := hid (cut_step (c := c) (s := t.data.toList) hbk (by omega) (by rw [HB.out, hc]) HCN.out)
        have hcI : (t[k].toNat : Int) = (c.toNat : Int) := by rw [hc]
        clear hc
        go_wp2_with (at_builtin; refine wpList_append_own_at _ rfl _ _ 23 rfl w.heap.size 9 i1 _ 1 16 Tryz.underlying23 hj hy0 hy1 hy2 rfl (by decide) v P.length (P.map Value.string) rfl ?owA ⟨wr.heap.size, 0, none⟩ 1 1 [.string (t.extract b k)] rfl rfl ?hnA ?h1A ?h63A ?hbyA ?hbaA ?_)
        case owA => exact HO.out.new ((Mod.refl _ _).alloc _)
        case hnA =>
          intro j u hj
          rw [add_none]
          match j, hj with
          | 0, hj => simp at hj; subst hj; exact (Blk.newAt (by simp)).cellv 0 rfl
        case h1A => intro u hu; simp at hu; subst hu; rfl
        case h63A => unfold maxLen; omega
        case hbyA => omega
        case hbaA => have := HN.out.size; simp at *; omega
        intro o3 w3 r3 g3 _ _
        have O3 : Hid (OwnT w3 w.heap.size o3 (P ++ [t.extract b k])) := hid (own_pushT r3 rfl rfl)
        have N3 : Hid (New w w3) := hid (newGrown (HN.out.alloc _) g3 (fun j hj => (World.ownsRow.lt HO.out j hj).1))
        clear r3 g3
        go_wp2
        exact ⟨⟨k + 1, k + 1, _, _, by simp, rfl, by simp, by omega, by omega, by simp; omega, by rw [← HP.out, HST.out, List.map_cons, mk_ext rfl, List.append_assoc]; rfl, by simp, O3.out, N3.out⟩, by simp [intOf]; omega⟩
      · have HMO := hid (cut_more (c := c) (s := t.data.toList) hbk (by omega) (by rw [HB.out]; exact hc) HCN.out)
        have hcI : ¬ (t[k].toNat : Int) = (c.toNat : Int) := fun q => hc (UInt8.toNat_inj.1 (by omega))
        clear hc
        go_wp2
        exact ⟨⟨k + 1, b, _, P, by simp, rfl, rfl, by omega, by omega, by omega, HP.out, HMO.out, HO.out, HN.out⟩, by simp [intOf]; omega⟩
    · obtain rfl : k = t.size := by omega
      have hcn := HCN.out
      rw [List.take_of_length_le (by rw [List.length_drop]; omega)] at hcn
      have HQ2 : Hid (P ++ [t.extract b t.size] = Q) := hid (by
        have e : (t.data.toList.drop b).take (t.size - b) = t.data.toList.drop b := List.take_of_length_le (by rw [List.length_drop]; omega)
        rw [← HP.out, cut_free hcn, List.map_cons, mk_ext e, List.map_nil])
      clear hcn
      go_wp2_with (at_builtin; refine wpList_append_own_at _ rfl _ _ 23 rfl w.heap.size 9 i1 _ 1 16 Tryz.underlying23 hj hy0 hy1 hy2 rfl (by decide) v P.length (P.map Value.string) rfl ?owB ⟨wr.heap.size, 0, none⟩ 1 1 [.string (t.extract b t.size)] rfl rfl ?hnB ?h1B ?h63B ?hbyB ?hbaB ?_)
      case owB => exact HO.out.new ((Mod.refl _ _).alloc _)
      case hnB =>
        intro j u hj
        rw [add_none]
        match j, hj with
        | 0, hj => simp at hj; subst hj; exact (Blk.newAt (by simp)).cellv 0 rfl
      case h1B => intro u hu; simp at hu; subst hu; rfl
      case h63B => unfold maxLen; omega
      case hbyB => omega
      case hbaB => have := HN.out.size; simp at *; omega
      intro o3 w3 r3 g3 _ _
      have O3 : Hid (OwnT w3 w.heap.size o3 (P ++ [t.extract b t.size])) := hid (own_pushT r3 rfl rfl)
      have N3 : Hid (New w w3) := hid (newGrown (HN.out.alloc _) g3 (fun j hj => (World.ownsRow.lt HO.out j hj).1))
      clear r3 g3
      have O4 : OwnT w3 w.heap.size o3 Q := HQ2.out ▸ O3.out
      obtain ⟨a, d, rfl, hst, hf⟩ := owns_strs (base := w.heap.size) (p := Q) O4 HSM.out
      have HSQ := hid hst
      have HF := hid hf
      clear O4 hst hf
      go_wp2
      go_ret
      exact ⟨a, d, rfl, HSQ.out, HF.out, N3.out⟩
theorem digP_none {most : Nat} {s : List UInt8} (h : natP s = none) : digP most s = -1 := by unfold digP; rw [h]
theorem natP_canon {s : List UInt8} (h : canon s = false) : natP s = none := by
  unfold natP
  rw [if_neg]
  rw [h]
  simp
theorem digP_over {most : Nat} {s : List UInt8} {k : Nat} (h : most < decVal (s.take k)) : digP most s = -1 := by
  unfold digP
  cases hn : natP s with
  | none => rfl
  | some u =>
    have : u = decVal s := by
      unfold natP at hn
      split at hn
      · injection hn with hn; exact hn.symm
      · cases hn
    have h2 := decVal_take s k
    simp only
    rw [if_neg (by omega)]
theorem digP_ok {most : Nat} {s : List UInt8} (h1 : canon s = true) (h2 : s.all isDig = true) (h3 : decVal s ≤ most) : digP most s = (decVal s : Int) := by
  unfold digP natP
  rw [if_pos ⟨h1, h2⟩]
  simp only
  rw [if_pos h3]
set_option maxRecDepth 100000 in
set_option maxHeartbeats 8000000 in
theorem rDig_any (most : Nat) (t : ByteArray) (w : World) (hs : t.size ≤ 70000) (h9 : 9 ≤ most) (hm : most ≤ 70000) :
    Calls Tryz.prog 138 #[.string t, .int .i64 most] w fun e w' => e = .returned (.int .i64 (digP most t.data.toList)) ∧ New w w' := by
  obtain ⟨V, hV⟩ : ∃ V, V = digP most t.data.toList := ⟨_, rfl⟩
  rw [← hV]
  have HV := hid hV
  clear hV
  have hlen : t.data.toList.length = t.size := by rw [Array.length_toList]; rfl
  by_cases hpos : t.size = 0
  · have h0 : t.data.toList = [] := List.eq_nil_of_length_eq_zero (by omega)
    have ht : t = ⟨#[]⟩ := bytes_ext h0
    have hv : Hid (V = -1) := hid (by rw [HV.out, h0]; rfl)
    subst ht
    clear h0 hlen HV hs hpos
    go_enter Tryz.func138, Tryz.ntmps138
    go_wp2
    go_ret
    exact ⟨by rw [hv.out]; rfl, Mod.refl _ _⟩
  · obtain ⟨c1, c2⟩ := canon_cases t (by omega)
    have hpos' : 0 < t.size := by omega
    have h48 : (t.toList == [48]) = decide (t.size = 1 ∧ t[0].toNat = 48) := by
      rw [Bool.eq_iff_iff, beq_iff_eq, decide_eq_true_eq, ByteArray.toList_eq]
      have h0 := byte_at' t hpos'
      constructor
      · intro q
        rw [q] at hlen h0
        simp at hlen h0
        exact ⟨hlen.symm, by rw [← h0]; rfl⟩
      · rintro ⟨q1, q2⟩
        match hq : t.data.toList with
        | [] => rw [hq] at hlen; simp at hlen; omega
        | [x] =>
          rw [hq] at h0
          simp at h0
          rw [h0]
          congr 1
          exact UInt8.toNat_inj.1 q2
        | x :: y :: r => rw [hq] at hlen; simp at hlen; omega
    by_cases hz : t[0].toNat = 48
    · have b2 : ((t[0].toNat : Int) == 48) = true := by rw [beq_iff_eq]; omega
      by_cases h1 : t.size = 1
      · have HC : Hid (canon t.data.toList = true) := hid (by rw [c2, h48, b2, decide_eq_true (And.intro h1 hz)]; rfl)
        have h1f : ¬ (1 : Int) < (t.size : Int) := by omega
        clear h48 c2 hz
        go_enter Tryz.func138, Tryz.ntmps138
        go_wp2
        go_loopw [22, 5] (fun i x wr => ∃ (k n : Nat), i = .int .i64 k ∧ x = .int .i64 n ∧ k ≤ t.size ∧ n = decVal (t.data.toList.take k) ∧ n ≤ most ∧ (t.data.toList.take k).all isDig = true ∧ New w wr) (fun i _ _ => t.size - (intOf i).toNat)
        case atStart => exact ⟨0, 0, rfl, rfl, by omega, rfl, by omega, by simp, Mod.refl _ _⟩
        case round =>
          obtain ⟨k, n, rfl, rfl, hk, hn, hm, hall, hN⟩ := hrel
          have HN := hid hN
          have HNV := hid hn
          have HALL := hid hall
          clear hN hn hall
          by_cases hlt : k < t.size
          · have hb := byte_at' t hlt
            have hmem : t[k] ∈ t.data.toList := List.mem_of_getElem? hb
            have hnx := decVal_next t.data.toList k (by omega)
            rw [List.getElem?_eq_getElem (by omega)] at hb
            have hbe := Option.some.inj hb
            rw [hbe, ← HNV.out] at hnx
            have HNX := hid hnx
            have htk : t.data.toList.take (k + 1) = t.data.toList.take k ++ [t[k]] := by rw [List.take_succ_eq_append_getElem (by omega), hbe]
            cases hdg : isDig t[k] with
            | false =>
              have hd2 := hdg
              simp only [isDig, Bool.and_eq_false_iff, decide_eq_false_iff_not] at hd2
              have hno : (t[k].toNat : Int) < 48 ∨ (57 : Int) < (t[k].toNat : Int) := by omega
              have hv : Hid (V = -1) := hid (by rw [HV.out]; exact digP_none (natP_no hmem hdg))
              clear hb hbe hmem hnx htk hd2 hdg
              rcases hno with hno | hno
              · go_wp2
                go_ret
                exact ⟨by rw [hv.out]; rfl, HN.out⟩
              · have hno2 : ¬ (t[k].toNat : Int) < 48 := by omega
                go_wp2
                go_ret
                exact ⟨by rw [hv.out]; rfl, HN.out⟩
            | true =>
              have hd2 := hdg
              simp only [isDig, Bool.and_eq_true, decide_eq_true_eq] at hd2
              obtain ⟨D, hD⟩ : ∃ D : Nat, (t[k].toNat : Int) = (D : Int) + 48 := ⟨t[k].toNat - 48, by omega⟩
              have hDD : t[k].toNat - 48 = D := by omega
              rw [hDD] at HNX
              have hlo : ¬ (t[k].toNat : Int) < 48 := by omega
              have hhi : ¬ (57 : Int) < (t[k].toNat : Int) := by omega
              have hD9 : D ≤ 9 := by omega
              have HA2 := hid (show (t.data.toList.take (k + 1)).all isDig = true by rw [htk, List.all_append, HALL.out]; simp [hdg])
              clear hb hbe hmem hnx htk hd2 hdg hDD
              have hq : ((most : Int) - (D : Int)).tdiv 10 = ((most : Int) - (D : Int)) / 10 := Int.tdiv_eq_ediv_of_nonneg (by omega)
              by_cases hov : most < n * 10 + D
              · have hv : Hid (V = -1) := hid (by rw [HV.out]; exact digP_over (k := k + 1) (by rw [HNX.out]; exact hov))
                have hovI : ((most : Int) - (D : Int)) / 10 < (n : Int) := by omega
                clear hov
                go_wp2
                go_ret
                exact ⟨by rw [hv.out]; rfl, HN.out⟩
              · have hovI : ¬ ((most : Int) - (D : Int)) / 10 < (n : Int) := by omega
                go_wp2
                exact ⟨⟨k + 1, n * 10 + D, by simp, by simp, by omega, HNX.out.symm, by omega, HA2.out, HN.out⟩, by simp [intOf]; omega⟩
          · obtain rfl : k = t.size := by omega
            have hn := HNV.out
            have hall := HALL.out
            rw [List.take_of_length_le (by omega)] at hn hall
            have hv : Hid (V = n) := hid (by rw [HV.out, hn]; exact digP_ok HC.out hall (by omega))
            clear hn hall
            go_wp2
            go_ret
            exact ⟨by rw [hv.out]; rfl, HN.out⟩
      · have hv : Hid (V = -1) := hid (by rw [HV.out]; exact digP_none (natP_canon (by rw [c2, h48, b2, decide_eq_false (fun q => h1 q.1)]; rfl)))
        have h1f : (1 : Int) < (t.size : Int) := by omega
        clear h48 c2 hz HV
        go_enter Tryz.func138, Tryz.ntmps138
        go_wp2
        go_ret
        exact ⟨by rw [hv.out]; rfl, Mod.refl _ _⟩
    · have b2 : ((t[0].toNat : Int) == 48) = false := by rw [beq_eq_false_iff_ne]; omega
      have HC : Hid (canon t.data.toList = true) := hid (by rw [c2, b2]; simp)
      clear h48 c2 hz
      go_enter Tryz.func138, Tryz.ntmps138
      go_wp2
      go_loopw [22, 5] (fun i x wr => ∃ (k n : Nat), i = .int .i64 k ∧ x = .int .i64 n ∧ k ≤ t.size ∧ n = decVal (t.data.toList.take k) ∧ n ≤ most ∧ (t.data.toList.take k).all isDig = true ∧ New w wr) (fun i _ _ => t.size - (intOf i).toNat)
      case atStart => exact ⟨0, 0, rfl, rfl, by omega, rfl, by omega, by simp, Mod.refl _ _⟩
      case round =>
        obtain ⟨k, n, rfl, rfl, hk, hn, hm, hall, hN⟩ := hrel
        have HN := hid hN
        have HNV := hid hn
        have HALL := hid hall
        clear hN hn hall
        by_cases hlt : k < t.size
        · have hb := byte_at' t hlt
          have hmem : t[k] ∈ t.data.toList := List.mem_of_getElem? hb
          have hnx := decVal_next t.data.toList k (by omega)
          rw [List.getElem?_eq_getElem (by omega)] at hb
          have hbe := Option.some.inj hb
          rw [hbe, ← HNV.out] at hnx
          have HNX := hid hnx
          have htk : t.data.toList.take (k + 1) = t.data.toList.take k ++ [t[k]] := by rw [List.take_succ_eq_append_getElem (by omega), hbe]
          cases hdg : isDig t[k] with
          | false =>
            have hd2 := hdg
            simp only [isDig, Bool.and_eq_false_iff, decide_eq_false_iff_not] at hd2
            have hno : (t[k].toNat : Int) < 48 ∨ (57 : Int) < (t[k].toNat : Int) := by omega
            have hv : Hid (V = -1) := hid (by rw [HV.out]; exact digP_none (natP_no hmem hdg))
            clear hb hbe hmem hnx htk hd2 hdg
            rcases hno with hno | hno
            · go_wp2
              go_ret
              exact ⟨by rw [hv.out]; rfl, HN.out⟩
            · have hno2 : ¬ (t[k].toNat : Int) < 48 := by omega
              go_wp2
              go_ret
              exact ⟨by rw [hv.out]; rfl, HN.out⟩
          | true =>
            have hd2 := hdg
            simp only [isDig, Bool.and_eq_true, decide_eq_true_eq] at hd2
            obtain ⟨D, hD⟩ : ∃ D : Nat, (t[k].toNat : Int) = (D : Int) + 48 := ⟨t[k].toNat - 48, by omega⟩
            have hDD : t[k].toNat - 48 = D := by omega
            rw [hDD] at HNX
            have hlo : ¬ (t[k].toNat : Int) < 48 := by omega
            have hhi : ¬ (57 : Int) < (t[k].toNat : Int) := by omega
            have hD9 : D ≤ 9 := by omega
            have HA2 := hid (show (t.data.toList.take (k + 1)).all isDig = true by rw [htk, List.all_append, HALL.out]; simp [hdg])
            clear hb hbe hmem hnx htk hd2 hdg hDD
            have hq : ((most : Int) - (D : Int)).tdiv 10 = ((most : Int) - (D : Int)) / 10 := Int.tdiv_eq_ediv_of_nonneg (by omega)
            by_cases hov : most < n * 10 + D
            · have hv : Hid (V = -1) := hid (by rw [HV.out]; exact digP_over (k := k + 1) (by rw [HNX.out]; exact hov))
              have hovI : ((most : Int) - (D : Int)) / 10 < (n : Int) := by omega
              clear hov
              go_wp2
              go_ret
              exact ⟨by rw [hv.out]; rfl, HN.out⟩
            · have hovI : ¬ ((most : Int) - (D : Int)) / 10 < (n : Int) := by omega
              go_wp2
              exact ⟨⟨k + 1, n * 10 + D, by simp, by simp, by omega, HNX.out.symm, by omega, HA2.out, HN.out⟩, by simp [intOf]; omega⟩
        · obtain rfl : k = t.size := by omega
          have hn := HNV.out
          have hall := HALL.out
          rw [List.take_of_length_le (by omega)] at hn hall
          have hv : Hid (V = n) := hid (by rw [HV.out, hn]; exact digP_ok HC.out hall (by omega))
          clear hn hall
          go_wp2
          go_ret
          exact ⟨by rw [hv.out]; rfl, HN.out⟩
end Go.Proofs.YtbgmkplpolgebaaGreatDoor

namespace Go.Proofs.YtbgmkplpolgebaaGreatDoor
set_option linter.unusedSimpArgs false
set_option linter.unusedVariables false
open Go.RowKit Go.Shelf

theorem atoi_bound {l : List UInt8} {v : Int} (h : Lib.atoiAll l = .ok v) : -9223372036854775808 ≤ v ∧ v ≤ 9223372036854775807 := by
  cases l with
  | nil => cases h
  | cons c r =>
    simp only [Lib.atoiAll] at h
    split at h
    · cases h
    · cases h
    · split at h
      · cases h
      · split at h
        · cases h
        · injection h with h
          split at h <;> omega
theorem bworld_new (w : World) (e : TypeId) (s : ByteArray) : New w (Lib.bytesWorld w e s) := New.of_below (Lib.bytesWorld_below _ _ _)
theorem atoi_all (t : ByteArray) (w : World) (hv : VarP w) (hs : t.size ≤ 4000000) :
    Calls Tryz.prog 171 #[.string t] w fun e w' => (∃ v x, e = .returned (.tuple #[.int .i64 v, x]) ∧ (-9223372036854775808 ≤ v ∧ v ≤ 9223372036854775807) ∧ ((Lib.atoiAll t.data.toList = .ok v ∧ x = .nilIface) ∨ (numP t.data.toList = none ∧ ∃ tp p, x = .iface tp p))) ∧ New w w' := by
  cases ha : Lib.atoiAll t.data.toList with
  | ok v =>
    refine (Tryz.strconv_Atoi_ok t (by omega) _ ha w).mono ?_
    rintro e w' ⟨rfl, hw⟩
    refine ⟨⟨_, _, rfl, atoi_bound ha, .inl ⟨rfl, rfl⟩⟩, ?_⟩
    rcases hw with rfl | ⟨s, rfl⟩
    · exact Mod.refl _ _
    · exact bworld_new _ _ _
  | range =>
    obtain ⟨tp, p, hsr⟩ := hv.rng
    refine (Tryz.strconv_Atoi_range_var t (by omega) ha tp p w hsr).mono ?_
    rintro e w' ⟨N, rfl, -, -, hb⟩
    exact ⟨⟨_, _, rfl, by unfold Lib.atoiSat; split <;> omega, .inr ⟨by unfold numP; rw [ha], _, _, rfl⟩⟩, New.of_below hb⟩
  | _ =>
    obtain ⟨tp, p, hsy⟩ := hv.syn
    refine (Tryz.strconv_Atoi_syntax_var t (by omega) (ha.trans rfl) tp p w hsy).mono ?_
    rintro e w' ⟨N, rfl, -, -, hb⟩
    exact ⟨⟨_, _, rfl, by omega, .inr ⟨by unfold numP; rw [ha], _, _, rfl⟩⟩, New.of_below hb⟩
/-- What number answers. -/
def NumB (r : Option Int) (e : Ending) : Prop := ∃ (x : Int) (b : Bool), e = .returned (.tuple #[.int .i64 x, .bool b]) ∧ (-9223372036854775808 ≤ x ∧ x ≤ 9223372036854775807) ∧ ((r = some x ∧ b = true) ∨ (r = none ∧ b = false))
theorem numP_ok {s : List UInt8} {v : Int} (h : Lib.atoiAll s = .ok v) (h0 : 0 ≤ v) (h1 : Lib.itoa v = s) : numP s = some v := by
  unfold numP
  rw [h]
  simp only
  rw [if_pos ⟨h0, h1⟩]
theorem numP_no {s : List UInt8} {v : Int} (h : Lib.atoiAll s = .ok v) (h0 : ¬ (0 ≤ v ∧ Lib.itoa v = s)) : numP s = none := by
  unfold numP
  rw [h]
  simp only
  rw [if_neg h0]
theorem toL_eqB {a b : ByteArray} : (a.toList == b.toList) = decide (a.data.toList = b.data.toList) := by
  rw [ByteArray.toList_eq, ByteArray.toList_eq]
  rw [Bool.eq_iff_iff, beq_iff_eq, decide_eq_true_eq]
set_option maxRecDepth 100000 in
set_option maxHeartbeats 4000000 in
theorem bnumber_any (t : ByteArray) (w : World) (hs : t.size ≤ 4000000) (hv : VarP w) : Calls Tryz.prog 134 #[.string t] w fun e w' => NumB (numP t.data.toList) e ∧ New w w' := by
  have HA := hid (atoi_all t w hv hs)
  have HV := hid (fun W (n : New w W) => hv.new n)
  obtain ⟨R, hR⟩ : ∃ R, R = numP t.data.toList := ⟨_, rfl⟩
  rw [← hR]
  rw [← hR] at HA
  have HR := hid hR
  clear hv hR
  go_enter Tryz.func134, Tryz.ntmps134
  go_wp2_with fail
  refine HA.out.mono ?_
  rintro e w1 ⟨⟨v, x, rfl, ⟨hv0, hv1⟩, hr⟩, n1⟩
  have N1 := hid n1
  clear n1 HA
  rcases hr with ⟨ha, rfl⟩ | ⟨hr, tp, p, rfl⟩
  · have HAA := hid ha
    clear ha
    by_cases h0 : 0 ≤ v
    · have d0 : decide (v ≥ 0) = true := decide_eq_true h0
      have HIT := hid (fun W (n : New w W) => itoa_any v hv0 hv1 W (HV.out W n).tab)
      by_cases he : Lib.itoa v = t.data.toList
      · have HX : Hid (R = some v) := hid (by rw [HR.out]; exact numP_ok HAA.out h0 he)
        have hq : ((itoaB v).toList == t.toList) = true := by rw [toL_eqB]; exact decide_eq_true he
        clear he
        go_wp2_with fail
        refine (HIT.out _ N1.out).mono ?_
        rintro e w2 ⟨rfl, n2⟩
        have N2 := hid (N1.out.trans n2)
        clear n2
        go_wp2
        go_ret2
        exact ⟨⟨_, _, rfl, ⟨hv0, hv1⟩, .inl ⟨HX.out, rfl⟩⟩, N2.out⟩
      · have HX : Hid (R = none) := hid (by rw [HR.out]; exact numP_no HAA.out (fun q => he q.2))
        have hq : ((itoaB v).toList == t.toList) = false := by rw [toL_eqB]; exact decide_eq_false he
        clear he
        go_wp2_with fail
        refine (HIT.out _ N1.out).mono ?_
        rintro e w2 ⟨rfl, n2⟩
        have N2 := hid (N1.out.trans n2)
        clear n2
        go_wp2
        go_ret2
        exact ⟨⟨_, _, rfl, ⟨hv0, hv1⟩, .inr ⟨HX.out, rfl⟩⟩, N2.out⟩
    · have d0 : decide (v ≥ 0) = false := decide_eq_false h0
      have HX : Hid (R = none) := hid (by rw [HR.out]; exact numP_no HAA.out (fun q => h0 q.1))
      go_wp2_with fail
      go_ret2
      exact ⟨⟨_, _, rfl, ⟨hv0, hv1⟩, .inr ⟨HX.out, rfl⟩⟩, N1.out⟩
  · have HX := hid hr
    clear hr
    go_wp2_with fail
    go_ret2
    exact ⟨⟨_, _, rfl, ⟨hv0, hv1⟩, .inr ⟨HX.out, rfl⟩⟩, N1.out⟩
end Go.Proofs.YtbgmkplpolgebaaGreatDoor
