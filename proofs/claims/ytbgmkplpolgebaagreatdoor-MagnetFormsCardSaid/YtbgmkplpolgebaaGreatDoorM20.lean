/-
  Several texts in one, in their build order. Texts cut: the library's Split and Cut at a byte, the reference's Cut and Digits. Conditions: texts are small; the library's variables are as laid. The walks of number and Text (package bits). Conditions: texts are small; the field is right; the library's variables are as laid.
-/
import Derived.Test.YtbgmkplpolgebaaGreatDoorM19
import Derived.Test.YtbgmkplpolgebaaGreatDoorM5
import Derived.Test.YtbgmkplpolgebaaGreatDoorM14
import Derived.Maps.AppendAt
import Derived.Test.YtbgmkplpolgebaaGreatDoorM18
import Derived.Test.YtbgmkplpolgebaaGreatDoorM10
namespace Go.Proofs.YtbgmkplpolgebaaGreatDoor
set_option linter.unusedSimpArgs false
set_option linter.unusedVariables false
open Go.RowKit Go.Shelf

theorem alloc_strs (w : World) (p : List ByteArray) (hp : p ≠ []) (hl : p.length ≤ maxLen) (hs : ∀ s ∈ p, s.size ≤ maxLen) : StrsAt (w.alloc (.cells (p.map Value.string).toArray 9)) (some ⟨w.heap.size, 0, none⟩) p.length p := by
  refine ⟨Nat.le_refl _, hl, hs, .inr ⟨w.heap.size, 0, rfl, by simp, fun i s hi => ?_⟩⟩
  refine (Blk.new w (p.map Value.string).toArray 9).cellv _ ?_
  rw [Nat.zero_add, List.getElem?_toArray, List.getElem?_map, hi]
  rfl
theorem split_c (c : UInt8) (t : ByteArray) (w : World) (hv : VarP w) (hr : t.size ≤ 4000000000) :
    Calls Tryz.prog 24 #[.string t, .string ⟨#[c]⟩] w fun e w' => e = .returned (.slice (some ⟨w.heap.size, 0, none⟩) ((pieces [] c t.data.toList).map mkB).length ((pieces [] c t.data.toList).map mkB).length) ∧ StrsAt w' (some ⟨w.heap.size, 0, none⟩) ((pieces [] c t.data.toList).map mkB).length ((pieces [] c t.data.toList).map mkB) ∧ New w w' := by
  obtain ⟨m, hm⟩ := hv.max
  have hsz : t.data.toList.length = t.size := by rw [Array.length_toList]; rfl
  have hP : Lib.splitB ⟨#[c]⟩ 0 (Lib.countB t ⟨#[c]⟩) t = (pieces [] c t.data.toList).map mkB := by
    rw [countB_one]
    exact splitB_pieces c 0 (by omega) t
  have hL : Lib.countB t ⟨#[c]⟩ + 1 = ((pieces [] c t.data.toList).map mkB).length := by
    rw [countB_one, List.length_map, pieces_len]
  refine (Tryz.strings_Split t ⟨#[c]⟩ m w (by omega) hm (Nat.le_refl 1)).mono ?_
  rintro e w' ⟨rfl, rfl⟩
  rw [hL, hP]
  refine ⟨rfl, alloc_strs w _ ?_ ?_ ?_, (Mod.refl _ _).alloc _⟩
  · intro q
    rw [q] at hL
    simp at hL
  · rw [← hL, countB_one]
    have := List.count_le_length (l := t.data.toList) (a := c)
    unfold maxLen
    omega
  · intro s hs
    obtain ⟨x, hx, rfl⟩ := List.mem_map.1 hs
    have := piece_le [] (by simp) c t.data.toList x hx
    have e : (mkB x).size = x.length := size_list x
    unfold maxLen
    omega
theorem cut_c (c : UInt8) (t : ByteArray) (w : World) (hv : VarP w) (hr : t.size ≤ 4000000000) :
    Calls Tryz.prog 25 #[.string t, .string ⟨#[c]⟩] w fun e w' => e = .returned (.tuple #[.string (mkB (cutB c t.data.toList).1), .string (mkB (cutB c t.data.toList).2.1), .bool (cutB c t.data.toList).2.2]) ∧ New w w' := by
  obtain ⟨m, hm⟩ := hv.max
  refine (Tryz.strings_Cut t ⟨#[c]⟩ m w (by omega) hm).mono ?_
  rintro e w' ⟨rfl, n, rfl⟩
  refine ⟨?_, Mod.drewN (Mod.refl _ _) n⟩
  have e : Lib.cut t.data.toList (⟨#[c]⟩ : ByteArray).data.toList = cutB c t.data.toList := cut_one c t.data.toList
  rw [e]
  rfl
theorem owns_strs {w : World} {base : Nat} {v : Value} {p : List ByteArray} (h : w.ownsRow base 9 1 v p.length (p.map Value.string)) (hs : ∀ s ∈ p, s.size ≤ maxLen) : ∃ a c, v = .slice a p.length c ∧ StrsAt w a c p ∧ ∀ x, a = some x → base ≤ x.block ∧ x.block < w.heap.size := by
  rcases h.2 with ⟨rfl, hn⟩ | ⟨g, cap, cur, rfl, hbg, hg, hnc, hcm, hcs, htake⟩
  · have : p = [] := List.eq_nil_of_length_eq_zero hn
    subst this
    exact ⟨none, 0, rfl, ⟨by simp, by simp [maxLen], by simp, .inl rfl⟩, by simp⟩
  · have hlt := (Array.getElem?_eq_some_iff.1 hg).1
    refine ⟨some ⟨g, 0, none⟩, cap, rfl, ⟨hnc, hcm, hs, .inr ⟨g, 0, rfl, hlt, fun i s hi => ?_⟩⟩, fun x hx => ?_⟩
    · have h1 := h.cells (g := g) rfl i (.string s) (by simp [hi])
      rw [add_none] at h1
      exact h1
    · simp at hx
      subst hx
      exact ⟨hbg, hlt⟩
theorem info_str : (Tryz.prog.info? 9).map (fun i => (i.zero, i.size, i.bytes)) = some (some (.string ⟨#[]⟩), 1, 16) := by kernel_rfl
/-- The strings that a call made. -/
def OwnT (w : World) (base : Nat) (v : Value) (P : List ByteArray) : Prop := w.ownsRow base 9 1 v P.length (P.map Value.string)
theorem OwnT.nil (w : World) (base : Nat) : OwnT w base (.slice none 0 0) [] := World.ownsRow_nil _ _ _ _
theorem OwnT.new {w w' : World} {base : Nat} {v : Value} {P : List ByteArray} (h : OwnT w base v P) (hn : New w w') : OwnT w' base v P := by
  refine World.ownsRow.kept h (row := none) ⟨hn.os, hn.tape, hn.output, hn.size, fun k hk _ => hn.block k hk (fun x => x)⟩ ?_
  cases e : v.ownBlock with
  | none => exact .inl rfl
  | some b => exact .inr (by simp)
theorem own_pushT {w : World} {base : Nat} {v : Value} {P : List ByteArray} {x : ByteArray} {n : Nat} {cs : List Value} (h : w.ownsRow base 9 1 v n cs) (hn : n = P.length + 1) (hc : cs = P.map Value.string ++ [.string x]) : OwnT w base v (P ++ [x]) := by
  subst hn hc
  unfold OwnT
  rw [List.length_append, List.map_append]
  exact h
/-- The text between two places. -/
theorem ext_list (t : ByteArray) (b k : Nat) : (t.extract b k).data.toList = (t.data.toList.drop b).take (k - b) := by
  rw [ByteArray.data_extract, Array.toList_extract]
end Go.Proofs.YtbgmkplpolgebaaGreatDoor

namespace Go.Proofs.YtbgmkplpolgebaaGreatDoor
set_option linter.unusedSimpArgs false
set_option linter.unusedVariables false
open Go.RowKit Go.Shelf

theorem atoi_bound {l : List UInt8} {v : Int} (h : Lib.atoiAll l = .ok v) : -9223372036854775808 ≤ v ∧ v ≤ 9223372036854775807 := by
  cases l with
  | nil => cases h
  | cons c r =>
    simp only [Lib.atoiAll] at h
    split at h
    · cases h
    · cases h
    · split at h
      · cases h
      · split at h
        · cases h
        · injection h with h
          split at h <;> omega
theorem bworld_new (w : World) (e : TypeId) (s : ByteArray) : New w (Lib.bytesWorld w e s) := New.of_below (Lib.bytesWorld_below _ _ _)
theorem atoi_all (t : ByteArray) (w : World) (hv : VarP w) (hs : t.size ≤ 4000000) :
    Calls Tryz.prog 171 #[.string t] w fun e w' => (∃ v x, e = .returned (.tuple #[.int .i64 v, x]) ∧ (-9223372036854775808 ≤ v ∧ v ≤ 9223372036854775807) ∧ ((Lib.atoiAll t.data.toList = .ok v ∧ x = .nilIface) ∨ (numP t.data.toList = none ∧ ∃ tp p, x = .iface tp p))) ∧ New w w' := by
  cases ha : Lib.atoiAll t.data.toList with
  | ok v =>
    refine (Tryz.strconv_Atoi_ok t (by omega) _ ha w).mono ?_
    rintro e w' ⟨rfl, hw⟩
    refine ⟨⟨_, _, rfl, atoi_bound ha, .inl ⟨rfl, rfl⟩⟩, ?_⟩
    rcases hw with rfl | ⟨s, rfl⟩
    · exact Mod.refl _ _
    · exact bworld_new _ _ _
  | range =>
    obtain ⟨tp, p, hsr⟩ := hv.rng
    refine (Tryz.strconv_Atoi_range_var t (by omega) ha tp p w hsr).mono ?_
    rintro e w' ⟨N, rfl, -, -, hb⟩
    exact ⟨⟨_, _, rfl, by unfold Lib.atoiSat; split <;> omega, .inr ⟨by unfold numP; rw [ha], _, _, rfl⟩⟩, New.of_below hb⟩
  | _ =>
    obtain ⟨tp, p, hsy⟩ := hv.syn
    refine (Tryz.strconv_Atoi_syntax_var t (by omega) (ha.trans rfl) tp p w hsy).mono ?_
    rintro e w' ⟨N, rfl, -, -, hb⟩
    exact ⟨⟨_, _, rfl, by omega, .inr ⟨by unfold numP; rw [ha], _, _, rfl⟩⟩, New.of_below hb⟩
/-- What number answers. -/
def NumB (r : Option Int) (e : Ending) : Prop := ∃ (x : Int) (b : Bool), e = .returned (.tuple #[.int .i64 x, .bool b]) ∧ (-9223372036854775808 ≤ x ∧ x ≤ 9223372036854775807) ∧ ((r = some x ∧ b = true) ∨ (r = none ∧ b = false))
theorem numP_ok {s : List UInt8} {v : Int} (h : Lib.atoiAll s = .ok v) (h0 : 0 ≤ v) (h1 : Lib.itoa v = s) : numP s = some v := by
  unfold numP
  rw [h]
  simp only
  rw [if_pos ⟨h0, h1⟩]
theorem numP_no {s : List UInt8} {v : Int} (h : Lib.atoiAll s = .ok v) (h0 : ¬ (0 ≤ v ∧ Lib.itoa v = s)) : numP s = none := by
  unfold numP
  rw [h]
  simp only
  rw [if_neg h0]
theorem toL_eqB {a b : ByteArray} : (a.toList == b.toList) = decide (a.data.toList = b.data.toList) := by
  rw [ByteArray.toList_eq, ByteArray.toList_eq]
  rw [Bool.eq_iff_iff, beq_iff_eq, decide_eq_true_eq]
set_option maxRecDepth 100000 in
set_option maxHeartbeats 4000000 in
theorem bnumber_any (t : ByteArray) (w : World) (hs : t.size ≤ 4000000) (hv : VarP w) : Calls Tryz.prog 134 #[.string t] w fun e w' => NumB (numP t.data.toList) e ∧ New w w' := by
  have HA := hid (atoi_all t w hv hs)
  have HV := hid (fun W (n : New w W) => hv.new n)
  obtain ⟨R, hR⟩ : ∃ R, R = numP t.data.toList := ⟨_, rfl⟩
  rw [← hR]
  rw [← hR] at HA
  have HR := hid hR
  clear hv hR
  go_enter Tryz.func134, Tryz.ntmps134
  go_wp2_with fail
  refine HA.out.mono ?_
  rintro e w1 ⟨⟨v, x, rfl, ⟨hv0, hv1⟩, hr⟩, n1⟩
  have N1 := hid n1
  clear n1 HA
  rcases hr with ⟨ha, rfl⟩ | ⟨hr, tp, p, rfl⟩
  · have HAA := hid ha
    clear ha
    by_cases h0 : 0 ≤ v
    · have d0 : decide (v ≥ 0) = true := decide_eq_true h0
      have HIT := hid (fun W (n : New w W) => itoa_any v hv0 hv1 W (HV.out W n).tab)
      by_cases he : Lib.itoa v = t.data.toList
      · have HX : Hid (R = some v) := hid (by rw [HR.out]; exact numP_ok HAA.out h0 he)
        have hq : ((itoaB v).toList == t.toList) = true := by rw [toL_eqB]; exact decide_eq_true he
        clear he
        go_wp2_with fail
        refine (HIT.out _ N1.out).mono ?_
        rintro e w2 ⟨rfl, n2⟩
        have N2 := hid (N1.out.trans n2)
        clear n2
        go_wp2
        go_ret2
        exact ⟨⟨_, _, rfl, ⟨hv0, hv1⟩, .inl ⟨HX.out, rfl⟩⟩, N2.out⟩
      · have HX : Hid (R = none) := hid (by rw [HR.out]; exact numP_no HAA.out (fun q => he q.2))
        have hq : ((itoaB v).toList == t.toList) = false := by rw [toL_eqB]; exact decide_eq_false he
        clear he
        go_wp2_with fail
        refine (HIT.out _ N1.out).mono ?_
        rintro e w2 ⟨rfl, n2⟩
        have N2 := hid (N1.out.trans n2)
        clear n2
        go_wp2
        go_ret2
        exact ⟨⟨_, _, rfl, ⟨hv0, hv1⟩, .inr ⟨HX.out, rfl⟩⟩, N2.out⟩
    · have d0 : decide (v ≥ 0) = false := decide_eq_false h0
      have HX : Hid (R = none) := hid (by rw [HR.out]; exact numP_no HAA.out (fun q => h0 q.1))
      go_wp2_with fail
      go_ret2
      exact ⟨⟨_, _, rfl, ⟨hv0, hv1⟩, .inr ⟨HX.out, rfl⟩⟩, N1.out⟩
  · have HX := hid hr
    clear hr
    go_wp2_with fail
    go_ret2
    exact ⟨⟨_, _, rfl, ⟨hv0, hv1⟩, .inr ⟨HX.out, rfl⟩⟩, N1.out⟩
end Go.Proofs.YtbgmkplpolgebaaGreatDoor
