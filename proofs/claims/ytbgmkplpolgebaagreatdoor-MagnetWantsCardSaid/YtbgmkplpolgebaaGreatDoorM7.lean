/-
  Several texts in one, in their build order. Texts cut at a byte, and decimal numbers, told in plain words. Plain Lean, no program. No condition. The reference's bits: a bit, whether a field is right. Conditions: the field is right; at most 4096 bits. An argument that is a slice of structs (any number of one-cell fields): its cells. Over any program. No condition.
-/
import Derived.Test.YtbgmkplpolgebaaGreatDoorM1
import Derived.Lib.SplitLaws
import Derived.Lib.Split
import Derived.Lib.AtoiAll
import Derived.Lib.ItoaNum
import Derived.Test.YtbgmkplpolgebaaGreatDoorM5
import Derived.Deep.Slices
import Derived.Deep.Fields
import Derived.ChangeSame
import Derived.ProofKit
import Derived.OpenShut
namespace Go.Proofs.YtbgmkplpolgebaaGreatDoor
set_option linter.unusedSimpArgs false
set_option linter.unusedVariables false

def mkB (l : List UInt8) : ByteArray := ⟨l.toArray⟩
theorem byte_at' (t : ByteArray) {k : Nat} (h : k < t.size) : t.data.toList[k]? = some t[k] := by
  rw [List.getElem?_eq_getElem (by rw [Array.length_toList]; exact h)]
  rfl
end Go.Proofs.YtbgmkplpolgebaaGreatDoor

namespace Go.Proofs.YtbgmkplpolgebaaGreatDoor
set_option linter.unusedSimpArgs false
set_option linter.unusedVariables false
open Go.RowKit Go.Shelf

theorem rright_any (n : Nat) (w : World) (hn : n ≤ 4096) : Calls Tryz.prog 105 #[.int .i64 n] w fun e w' => e = .returned (.bool true) ∧ w = w' := by
  have h0 : decide ((n : Int) ≥ 0) = true := decide_eq_true (by omega)
  have h1 : decide ((n : Int) ≤ 4096) = true := decide_eq_true (by omega)
  have h2 : decide (0 ≤ (n : Int)) = true := decide_eq_true (by omega)
  go_enter Tryz.func105, Tryz.ntmps105
  go_wp2
  go_ret
  exact ⟨rfl, rfl⟩
theorem rlong_any (n : Nat) (w : World) (hn : n ≤ 4096) : Calls Tryz.prog 150 #[.int .i64 n] w fun e w' => e = .returned (.int .i64 ((n + 7) / 8 : Nat)) ∧ w = w' := by
  have hq : ((n : Int) + 7).tdiv 8 = (((n + 7) / 8 : Nat) : Int) := by rw [Int.tdiv_eq_ediv_of_nonneg (by omega)]; omega
  have hq2 : ((n : Int) + 7) / 8 = (((n + 7) / 8 : Nat) : Int) := by omega
  have hw1 : IntKind.i64.wrap ((n : Int) + 7) = (n : Int) + 7 := by rw [IntKind.wrap_i64]; omega
  obtain ⟨K, hK⟩ : ∃ K, K = (n + 7) / 8 := ⟨_, rfl⟩
  rw [← hK] at hq hq2
  rw [← hK]
  clear hK
  go_enter Tryz.func150, Tryz.ntmps150
  go_wp2
  go_ret
  exact ⟨rfl, rfl⟩
theorem half_bit (b : UInt8) (j : Nat) (hj : j < 8) : (((b.toNat / 2 ^ (7 - j) : Nat) : Int) % 2 == 1) = bitB b j := by
  unfold bitB
  rw [Bool.eq_iff_iff, beq_iff_eq, decide_eq_true_eq]
  omega
set_option maxRecDepth 100000 in
set_option maxHeartbeats 4000000 in
theorem rat_any (s : ByteArray) (i : Nat) (w : World) (hi : i / 8 < s.size) (hs : s.size ≤ 70000) : Calls Tryz.prog 111 #[.string s, .int .i64 i] w fun e w' => e = .returned (.bool (bitL s.data.toList i)) ∧ w = w' := by
  have hb := byte_at' s hi
  have hq : ((i : Int)).tdiv 8 = ((i / 8 : Nat) : Int) := by rw [Int.tdiv_eq_ediv_of_nonneg (by omega)]; omega
  have hq2 : (i : Int) / 8 = ((i / 8 : Nat) : Int) := by omega
  have hr : ((i : Int)).tmod 8 = ((i % 8 : Nat) : Int) := by rw [Int.tmod_eq_emod_of_nonneg (by omega)]; omega
  have hr2 : (i : Int) % 8 = ((i % 8 : Nat) : Int) := by omega
  have HB := hid (show bitL s.data.toList i = bitB s[i / 8] (i % 8) by unfold bitL; rw [List.getD_eq_getElem?_getD, hb]; rfl)
  obtain ⟨K, hK⟩ : ∃ K, K = i / 8 := ⟨_, rfl⟩
  obtain ⟨J, hJ⟩ : ∃ J, J = i % 8 := ⟨_, rfl⟩
  have hJ8 : J < 8 := by omega
  have hKs : K < s.size := by omega
  obtain ⟨V, hV⟩ : ∃ V, V = bitL s.data.toList i := ⟨_, rfl⟩
  have HVB : Hid (V = bitB s[K] J) := hid (by rw [hV, HB.out]; subst hK hJ; rfl)
  rw [← hV]
  rw [← hK] at hq hq2
  rw [← hJ] at hr hr2
  have hw : IntKind.i64.wrap (7 - (J : Int)) = 7 - (J : Int) := by rw [IntKind.wrap_i64]; omega
  have hKI : (K : Int) < (s.size : Int) := by omega
  clear hK hJ hV hb HB hi
  have hbl := s[K].toNat_lt
  go_enter Tryz.func111, Tryz.ntmps111
  go_wp2
  go_loop [14, 5] (fun i c => ∃ (k : Nat), i = .int .i64 k ∧ c = .int .i64 ((s[K].toNat / 2 ^ k : Nat) : Int) ∧ k ≤ 7 - J) (fun i _ => 7 - J - (intOf i).toNat)
  case atStart => exact ⟨0, rfl, by simp, by omega⟩
  case round =>
    obtain ⟨k, rfl, rfl, hk⟩ := hrel
    have hle : s[K].toNat / 2 ^ k ≤ 255 := by have := Nat.div_le_self s[K].toNat (2 ^ k); omega
    by_cases hlt : k < 7 - J
    · have hltI : (k : Int) < 7 - (J : Int) := by omega
      have hd : s[K].toNat / 2 ^ (k + 1) = s[K].toNat / 2 ^ k / 2 := by rw [Nat.pow_succ, Nat.div_div_eq_div_mul]
      obtain ⟨Y, hY⟩ : ∃ Y, Y = s[K].toNat / 2 ^ k := ⟨_, rfl⟩
      rw [← hY] at hle hd
      rw [← hY]
      have hd2 : ((Y : Int)).tdiv 2 = ((Y / 2 : Nat) : Int) := by rw [Int.tdiv_eq_ediv_of_nonneg (by omega)]; omega
      have hd3 : (Y : Int) / 2 = ((Y / 2 : Nat) : Int) := by omega
      obtain ⟨Z, hZ⟩ : ∃ Z, Z = Y / 2 := ⟨_, rfl⟩
      rw [← hZ] at hd hd2 hd3
      have HD := hid hd
      have hd4 : IntKind.i64.wrap ((Z : Nat) : Int) = (Z : Int) := by rw [IntKind.wrap_i64]; omega
      have hZl : Z ≤ 255 := by omega
      clear hd hY hZ
      go_wp2
      exact ⟨⟨k + 1, by simp, by rw [HD.out], by omega⟩, by simp [intOf]; omega⟩
    · have hkk : k = 7 - J := by omega
      have hltI : ¬ (k : Int) < 7 - (J : Int) := by omega
      have hh := half_bit s[K] J hJ8
      rw [← hkk, ← HVB.out] at hh
      obtain ⟨Y, hY⟩ : ∃ Y, Y = s[K].toNat / 2 ^ k := ⟨_, rfl⟩
      rw [← hY] at hle hh
      rw [← hY]
      have hd2 : ((Y : Int)).tmod 2 = (Y : Int) % 2 := by rw [Int.tmod_eq_emod_of_nonneg (by omega)]
      clear hY hkk
      go_wp2
      go_ret
      exact ⟨rfl, rfl⟩
set_option maxRecDepth 100000 in
set_option maxHeartbeats 4000000 in
theorem rwrong_ok (n : Nat) (s : ByteArray) (w : World) (h : FieldOf n s.data.toList) (hn : n ≤ 4096) : Calls Tryz.prog 178 #[.int .i64 n, .string s] w fun e w' => e = .returned (.tuple #[.int .i64 (-1), .int .i64 0]) ∧ w = w' := by
  have hlen : s.data.toList.length = s.size := by rw [Array.length_toList]; rfl
  have hl := h.len
  rw [hlen] at hl
  have HAT := hid (fun (i : Nat) (q : n ≤ i) (q2 : i < 8 * s.size) W => (h.rest i q) ▸ rat_any s i W (by omega) (by omega))
  have HR := hid (fun W => rright_any n W hn)
  have HL := hid (fun W => rlong_any n W hn)
  rw [← hl] at HL
  have hss : s.size ≤ 512 := by omega
  have hn8 : n ≤ 8 * s.size := by omega
  have hd1 : decide ((s.size : Int) < (s.size : Int)) = false := decide_eq_false (by omega)
  clear hl h hlen
  go_enter Tryz.func178, Tryz.ntmps178
  go_wp2_with (first | (go_at_call 105; refine (HR.out _).mono ?_; rintro e w1 ⟨rfl, rfl⟩) | (go_at_call 150; refine (HL.out _).mono ?_; rintro e w1 ⟨rfl, rfl⟩) | fail)
  go_loop [6] (fun i => ∃ (k : Nat), i = .int .i64 k ∧ n ≤ k ∧ k ≤ 8 * s.size) (fun i => 8 * s.size - (intOf i).toNat)
  case atStart => exact ⟨n, rfl, by omega, hn8⟩
  case round =>
    obtain ⟨k, rfl, hk, hk2⟩ := hrel
    have hm : IntKind.i64.wrap (8 * (s.size : Int)) = 8 * (s.size : Int) := by rw [IntKind.wrap_i64]; omega
    by_cases hlt : k < 8 * s.size
    · have hltI : (k : Int) < 8 * (s.size : Int) := by omega
      go_wp2_with (first | (go_at_call 150; refine (HL.out _).mono ?_; rintro e w1 ⟨rfl, rfl⟩) | (go_at_call 111; refine (HAT.out k hk hlt _).mono ?_; rintro e w1 ⟨rfl, rfl⟩) | fail)
      exact ⟨⟨k + 1, by simp, by omega, by omega⟩, by simp [intOf]; omega⟩
    · have hltI : ¬ (k : Int) < 8 * (s.size : Int) := by omega
      go_wp2_with (first | (go_at_call 150; refine (HL.out _).mono ?_; rintro e w1 ⟨rfl, rfl⟩) | fail)
      go_ret2
      exact ⟨rfl, rfl⟩
theorem rvalid_ok (n : Nat) (s : ByteArray) (w : World) (h : FieldOf n s.data.toList) (hn : n ≤ 4096) : Calls Tryz.prog 151 #[.int .i64 n, .string s] w fun e w' => e = .returned (.bool true) ∧ w = w' := by
  have HW := hid (rwrong_ok n s w h hn)
  clear h
  go_enter Tryz.func151, Tryz.ntmps151
  go_wp2_with fail
  refine HW.out.mono ?_
  rintro e w1 ⟨rfl, rfl⟩
  go_wp2
  go_ret
  exact ⟨rfl, rfl⟩
theorem rcheck_ok (n : Nat) (s : ByteArray) (w : World) (h : FieldOf n s.data.toList) (hn : n ≤ 4096) : Calls Tryz.prog 107 #[.int .i64 n, .string s] w fun e w' => e = .returned (.int .i64 0) ∧ w = w' := by
  have HV := hid (fun W => rvalid_ok n s W h hn)
  have HR := hid (fun W => rright_any n W hn)
  clear h
  go_enter Tryz.func107, Tryz.ntmps107
  go_wp2_with (first | (go_at_call 105; refine (HR.out _).mono ?_; rintro e w1 ⟨rfl, rfl⟩) | (go_at_call 151; refine (HV.out _).mono ?_; rintro e w1 ⟨rfl, rfl⟩) | fail)
  go_ret
  exact ⟨rfl, rfl⟩
end Go.Proofs.YtbgmkplpolgebaaGreatDoor

namespace Go.Proofs.YtbgmkplpolgebaaGreatDoor
set_option linter.unusedSimpArgs false
set_option linter.unusedVariables false
open Go.ChangeShapes Go.WideShapes Go.Deep Go.RowKit
section
variable {H : Type} {enc : TypeId × Value → H} {P : Program} {w : World} {base : Nat} {spare : Nat → Bool} {held : Bool}
theorem open_slice_fields {t e : TypeId} {fs : Array Field} {fuel : Nat} {cs : List Value} {x : DataW H × List MemPlace} (ht : P.underlying t = some (.slice e)) (he : P.underlying e = some (.struct fs))
    (hone : oneCellFields P fs = true) (hC : P.cellsOf e = fs.size) (h : DataW.trod enc P w base spare held fuel t cs = some x) :
    (cs = [.slice none 0 0] ∧ x = (.nil, [])) ∨
    ∃ (a : Addr) (len cap m : Nat) (D : Nat → DataW H) (Pl : Nat → List MemPlace), cs = [.slice (some a) len cap] ∧ base ≤ a.block ∧ len ≤ cap ∧ cap ≤ maxLen ∧ m = (if spare a.block then cap else len) ∧
      x = (.slice ((List.range len).map D) ((List.range (m - len)).map fun j => D (len + j)), MemPlace.row a (m * fs.size) ++ (List.range m).flatMap Pl) ∧
      ∀ i, i < m → ∃ (ys : List (DataW H × List MemPlace)) (n : Nat), D i = .agg (ys.map (·.1)) ∧ Pl i = ys.flatMap (·.2) ∧ ys.length = fs.size ∧
        ∀ (j : Nat) (f : Field), fs[j]? = some f → ∃ (v : Value) (y : DataW H × List MemPlace), w.cell? (a.add (i * fs.size + j)) = some v ∧ ys[j]? = some y ∧ DataW.trod enc P w base spare held n f.type [v] = some y := by
  rcases open_slice ht h with h0 | ⟨a, len, cap, m, n, D, Pl, hcs, hb, hl, hm, hmm, hx, hi⟩
  · exact .inl h0
  · refine .inr ⟨a, len, cap, m, D, Pl, hcs, hb, hl, hm, hmm, by rw [hC] at hx; exact hx, fun i him => ?_⟩
    obtain ⟨cs', hc, ht'⟩ := hi i him
    rw [hC] at hc
    obtain ⟨ys, n', hn', hy, hlen, hyl, hf⟩ := DataW.trod_struct he ht'
    obtain ⟨_, hcl, hat⟩ := World.cells?_some hc
    simp only [Prod.mk.injEq] at hy
    refine ⟨ys, n', hy.1, hy.2, hyl, fun j f hj => ?_⟩
    obtain ⟨ho, hk⟩ := hone_of hone j f hj
    have hjl : j < fs.size := (Array.getElem?_eq_some_iff.1 hj).1
    have hcell := hat j hjl
    have hv : cs'[j]? = some (cs'[j]'(by omega)) := List.getElem?_eq_getElem (by omega)
    have h1 := hf j f hj
    rw [ho, hk] at h1
    have hone' : (cs'.drop j).take 1 = [cs'[j]'(by omega)] := by
      rw [List.drop_eq_getElem_cons (by omega)]
      rfl
    rw [hone'] at h1
    have hys : ys[j]? = some (ys[j]'(by omega)) := List.getElem?_eq_getElem (by omega)
    refine ⟨_, _, ?_, hys, h1.trans hys⟩
    rw [← Go.Deep.add_add, hcell, hv]
end
/-- As many things as there are places, one for each place. -/
theorem list_of {α : Type} {p : Nat → α → Prop} (n : Nat) (h : ∀ i, i < n → ∃ x, p i x) : ∃ l : List α, l.length = n ∧ ∀ i x, l[i]? = some x → p i x := by
  induction n with
  | zero => exact ⟨[], rfl, fun i x hx => by simp at hx⟩
  | succ n ih =>
    obtain ⟨l, hl, hp⟩ := ih (fun i hi => h i (by omega))
    obtain ⟨x, hx⟩ := h n (by omega)
    refine ⟨l ++ [x], by simp [hl], fun i y hy => ?_⟩
    by_cases hi : i < n
    · rw [List.getElem?_append_left (by omega)] at hy
      exact hp i y hy
    · have hlt : i < (l ++ [x]).length := (List.getElem?_eq_some_iff.1 hy).1
      simp at hlt
      have : i = n := by omega
      subst this
      rw [List.getElem?_append_right (by omega), hl] at hy
      simp at hy
      exact hy ▸ hx
theorem cell_spot {w : World} {a : Addr} {v : Value} (h : w.cell? a = some v) : a.spot = none := by
  unfold World.cell? at h
  split at h
  · split at h
    · cases h
    · next hs => cases hq : a.spot <;> simp_all
  · cases h
theorem add_none (b off i : Nat) : (⟨b, off, none⟩ : Addr).add i = ⟨b, off + i, none⟩ := by
  unfold Addr.add
  split
  · next h => subst h; rfl
  · rfl
end Go.Proofs.YtbgmkplpolgebaaGreatDoor
