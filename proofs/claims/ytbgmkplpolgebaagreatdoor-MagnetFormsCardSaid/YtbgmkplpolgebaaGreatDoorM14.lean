/-
  Several texts in one, in their build order. Lists of runs in memory; the bits of a byte, one behind the other; the iterator over a field's bits. Conditions as told. The reference's bits: a bit, whether a field is right. Conditions: the field is right; at most 4096 bits. An argument that is a slice of structs (any number of one-cell fields): its cells. Over any program. No condition. The reference's bits: truths, numbers, the list of bits. Conditions: the field is right; at most 4096 bits.
-/
import Derived.Test.YtbgmkplpolgebaaGreatDoorM11
import Derived.Test.YtbgmkplpolgebaaGreatDoorM9
import Derived.Test.YtbgmkplpolgebaaGreatDoorM12
import Derived.Test.YtbgmkplpolgebaaGreatDoorM2
import Derived.Test.YtbgmkplpolgebaaGreatDoorM13
import Derived.Maps.AppendAt
import Derived.Test.YtbgmkplpolgebaaGreatDoorM1
import Derived.Deep.Slices
import Derived.Deep.Fields
import Derived.ChangeSame
import Derived.ProofKit
import Derived.OpenShut
namespace Go.Proofs.YtbgmkplpolgebaaGreatDoor
set_option linter.unusedSimpArgs false
set_option linter.unusedVariables false
open Go.RowKit Go.Shelf
attribute [local go_sem] Oper.semAt_some

def runCells (s : Int × Int) : List Value := [.int .i64 s.1, .int .i64 s.2]
def runRow (U : List (Int × Int)) : List Value := U.flatMap runCells
theorem runRow_app (U V : List (Int × Int)) : runRow (U ++ V) = runRow U ++ runRow V := by unfold runRow; rw [List.flatMap_append]
theorem runRow_len (U : List (Int × Int)) : (runRow U).length = U.length * 2 := by
  induction U with
  | nil => rfl
  | cons x U ih => show (runCells x ++ runRow U).length = _; rw [List.length_append, ih]; simp [runCells]; omega
theorem runRow_at {U : List (Int × Int)} {i j : Nat} {s : Int × Int} (h : U[i]? = some s) (hj : j < 2) : (runRow U)[i * 2 + j]? = (runCells s)[j]? := by
  have hi := (List.getElem?_eq_some_iff.1 h).1
  have hsp : U = U.take i ++ s :: U.drop (i + 1) := by
    have e : U[i] = s := (List.getElem?_eq_some_iff.1 h).2
    rw [← e, List.getElem_cons_drop, List.take_append_drop]
  rw [hsp, runRow_app, List.getElem?_append_right (by rw [runRow_len, List.length_take]; omega), runRow_len, List.length_take, show i * 2 + j - min i U.length * 2 = j by omega]
  show (runCells s ++ runRow _)[j]? = _
  rw [List.getElem?_append_left (by simp [runCells]; omega)]
theorem addrN (b off i : Nat) : (⟨b, off, none⟩ : Addr).add i = ⟨b, off + i, none⟩ := by
  unfold Addr.add
  split
  · next h => subst h; rfl
  · rfl
def OwnR (w : World) (base : Nat) (v : Value) (U : List (Int × Int)) : Prop := w.ownsRow base 66 2 v U.length (runRow U)
/-- The slice v holds the runs U. -/
def RunsAt (w : World) (v : Value) (U : List (Int × Int)) : Prop :=
  ∃ a c, v = .slice a U.length c ∧ U.length ≤ c ∧ c ≤ maxLen ∧ (U = [] ∨ ∃ g o, a = some ⟨g, o, none⟩ ∧ g < w.heap.size ∧ ∀ (i : Nat) (hi : i < U.length), w.cell? ⟨g, o + i * 2, none⟩ = some (.int .i64 U[i].1) ∧ w.cell? ⟨g, o + i * 2 + 1, none⟩ = some (.int .i64 U[i].2))
theorem RunsAt.new {w w' : World} {v : Value} {U : List (Int × Int)} (h : RunsAt w v U) (hn : New w w') : RunsAt w' v U := by
  obtain ⟨a, c, e, h1, h2, h3⟩ := h
  refine ⟨a, c, e, h1, h2, ?_⟩
  rcases h3 with h3 | ⟨g, o, e2, hg, hc⟩
  · exact .inl h3
  · exact .inr ⟨g, o, e2, Nat.lt_of_lt_of_le hg hn.size, fun i hi => ⟨New.cellv hn (hc i hi).1, New.cellv hn (hc i hi).2⟩⟩
theorem OwnR.runs {w : World} {base : Nat} {v : Value} {U : List (Int × Int)} (h : OwnR w base v U) : RunsAt w v U := by
  have h0 := h
  rcases h.2 with ⟨rfl, hn⟩ | ⟨g, cap, cur, rfl, hbg, hg, hnc, hcm, hcs, htake⟩
  · have : U = [] := List.eq_nil_of_length_eq_zero hn
    subst this
    exact ⟨none, 0, rfl, by simp, by simp [maxLen], .inl rfl⟩
  · refine ⟨_, cap, rfl, hnc, hcm, .inr ⟨g, 0, rfl, (Array.getElem?_eq_some_iff.1 hg).1, fun i hi => ?_⟩⟩
    have hc : ∀ j u, j < 2 → (runCells U[i])[j]? = some u → w.cell? ⟨g, i * 2 + j, none⟩ = some u := by
      intro j u hj hu
      have h1 := World.ownsRow.cells (g := g) h0 rfl (i * 2 + j) u (by rw [runRow_at (List.getElem?_eq_getElem hi) hj]; exact hu)
      rw [addrN] at h1
      simpa using h1
    simp only [Nat.zero_add]
    exact ⟨hc 0 _ (by omega) rfl, hc 1 _ (by omega) rfl⟩
theorem OwnR.base {w : World} {base base' : Nat} {v : Value} {U : List (Int × Int)} (h : OwnR w base v U) (hb : base' ≤ base) : OwnR w base' v U := by
  refine ⟨h.1, ?_⟩
  rcases h.2 with h1 | ⟨g, cap, cur, e, hbg, rest⟩
  · exact .inl h1
  · exact .inr ⟨g, cap, cur, e, Nat.le_trans hb hbg, rest⟩
theorem info_runB : (Tryz.prog.info? 66).map (fun i => (i.zero, i.size, i.bytes)) = some (some (.agg #[.int .i64 0, .int .i64 0]), 2, 16) := by kernel_rfl
theorem OwnR.nil (w : World) (base : Nat) : OwnR w base (.slice none 0 0) [] := World.ownsRow_nil _ _ _ _
theorem OwnR.mod {S : Nat → Prop} {w w' : World} {base : Nat} {v : Value} {U : List (Int × Int)} (h : OwnR w base v U) (n : Mod S w w') (hs : ∀ k, base ≤ k → k < w.heap.size → ¬ S k) : OwnR w' base v U := by
  refine ⟨h.1, ?_⟩
  rcases h.2 with h1 | ⟨g, cap, cur, rfl, hbg, hg, r⟩
  · exact .inl h1
  · have hlt := (Array.getElem?_eq_some_iff.1 hg).1
    exact .inr ⟨g, cap, cur, rfl, hbg, (n.block g hlt (hs g hbg hlt)).trans hg, r⟩
theorem OwnR.new {w w' : World} {base : Nat} {v : Value} {U : List (Int × Int)} (h : OwnR w base v U) (n : New w w') : OwnR w' base v U := h.mod n (fun _ _ _ x => x)
theorem OwnR.at' {w : World} {base : Nat} {v : Value} {U : List (Int × Int)} (h : OwnR w base v U) (hU : 0 < U.length) : ∃ g cap, v = .slice (some ⟨g, 0, none⟩) U.length cap ∧ base ≤ g ∧ g < w.heap.size ∧ (∃ cs, Blk w g cs 66) ∧ (∀ i, w.frozen? ⟨g, i, none⟩ = false) ∧ U.length ≤ cap ∧ cap ≤ maxLen ∧ ∀ (i : Nat) (hi : i < U.length), w.cell? ⟨g, i * 2, none⟩ = some (.int .i64 U[i].1) ∧ w.cell? ⟨g, i * 2 + 1, none⟩ = some (.int .i64 U[i].2) := by
  have h0 := h
  rcases h.2 with ⟨rfl, hn⟩ | ⟨g, cap, cur, rfl, hbg, hg, hnc, hcm, hcs, htake⟩
  · omega
  · refine ⟨g, cap, rfl, hbg, (Array.getElem?_eq_some_iff.1 hg).1, ⟨cur, hg⟩, fun i => by simp [World.frozen?, hg], hnc, hcm, fun i hi => ?_⟩
    have hc : ∀ j u, j < 2 → (runCells U[i])[j]? = some u → w.cell? ⟨g, i * 2 + j, none⟩ = some u := by
      intro j u hj hu
      have h1 := World.ownsRow.cells (g := g) h0 rfl (i * 2 + j) u (by rw [runRow_at (List.getElem?_eq_getElem hi) hj]; exact hu)
      rw [addrN] at h1
      simpa using h1
    exact ⟨hc 0 _ (by omega) rfl, hc 1 _ (by omega) rfl⟩
theorem runRow_put (A : List (Int × Int)) (r : Int × Int) (x : Int) : (runRow (A ++ [r])).set (A.length * 2 + 1) (.int .i64 x) = runRow (A ++ [(r.1, x)]) := by
  rw [runRow_app, runRow_app, List.set_append_right _ _ (by rw [runRow_len]; omega), runRow_len, show A.length * 2 + 1 - A.length * 2 = 1 by omega]
  rfl
theorem OwnR.put {w : World} {base g cap n : Nat} {A : List (Int × Int)} {r : Int × Int} (h : OwnR w base (.slice (some ⟨g, 0, none⟩) n cap) (A ++ [r])) (x : Int) :
    OwnR (w.setCell ⟨g, A.length * 2 + 1, none⟩ (.int .i64 x)) base (.slice (some ⟨g, 0, none⟩) n cap) (A ++ [(r.1, x)]) := by
  rcases h.2 with ⟨q, -⟩ | ⟨g', cap', cur, q, hbg, hg, hnc, hcm, hcs, htake⟩
  · cases q
  · injection q with q1 q2 q3
    injection q1 with q1
    injection q1 with q1
    subst q1 q2 q3
    have hb : Blk w g cur 66 := hg
    have hs := hb.set (A.length * 2 + 1) (.int .i64 x)
    refine ⟨?_, .inr ⟨g, cap, cur.setIfInBounds (A.length * 2 + 1) (.int .i64 x), ?_, hbg, hs, ?_, hcm, by simpa using hcs, ?_⟩⟩
    · have := h.1
      simp only [List.length_append, List.length_singleton, runRow_len] at this ⊢
    · simp
    · simpa using hnc
    · rw [← runRow_put, Array.toList_setIfInBounds, ← htake, show (A ++ [(r.1, x)]).length * 2 = (A ++ [r]).length * 2 by simp]
      exact list_take_set _ _ _ _ (by simp; omega)
/-! ### the bits of a byte -/
def setBits (b : UInt8) : List Nat := (List.range 8).filter (bitB b)
theorem setBits_zero : setBits 0 = [] := by decide +kernel
theorem setBits_step (b : UInt8) (h : b ≠ 0) : ∃ i : Nat, (8 - (Lib.bitLen (b.toNat : Int).toNat : Int)) = (i : Int) ∧ i < 8 ∧ setBits b = i :: setBits (setB b i false) := by
  have key : ∀ n : Nat, n < 256 → n ≠ 0 → Lib.bitLen n ≤ 8 ∧ 8 - Lib.bitLen n < 8 ∧ setBits (UInt8.ofNat n) = (8 - Lib.bitLen n) :: setBits (setB (UInt8.ofNat n) (8 - Lib.bitLen n) false) := by decide +kernel
  have hn : b.toNat ≠ 0 := fun q => h (UInt8.toNat_inj.1 q)
  obtain ⟨k1, k2, k3⟩ := key b.toNat b.toNat_lt hn
  rw [UInt8.ofNat_toNat] at k3
  exact ⟨8 - Lib.bitLen b.toNat, by rw [Int.toNat_natCast]; omega, k2, k3⟩
theorem numsL_more (a : Nat) (s : List UInt8) : ∀ m, numsL (a + m) s = numsL a s ++ ((List.range m).filter (fun j => bitL s (a + j))).map (a + ·)
  | 0 => by simp
  | m + 1 => by
    rw [show a + (m + 1) = (a + m) + 1 by omega, numsL_succ, numsL_more a s m, List.range_succ, List.filter_append, List.map_append, List.append_assoc]
    congr 1
    congr 1
    cases h : bitL s (a + m) <;> simp [h]
theorem numsL_byte (s : List UInt8) (k : Nat) (hk : k < s.length) : numsL (8 * (k + 1)) s = numsL (8 * k) s ++ (setBits s[k]).map (8 * k + ·) := by
  rw [show 8 * (k + 1) = 8 * k + 8 by omega, numsL_more]
  congr 1
  unfold setBits
  congr 1
  apply List.filter_congr
  intro j hj
  have hj8 : j < 8 := by simpa using hj
  unfold bitL
  rw [show (8 * k + j) / 8 = k by omega, show (8 * k + j) % 8 = j by omega, List.getD_eq_getElem?_getD, List.getElem?_eq_getElem hk]
  rfl
theorem numsL_all {n : Nat} {s : List UInt8} (h : FieldOf n s) : numsL (8 * s.length) s = numsL n s := by
  have hl := h.len
  rw [show 8 * s.length = n + (8 * s.length - n) by omega, numsL_more]
  have : (List.range (8 * s.length - n)).filter (fun j => bitL s (n + j)) = [] := by
    rw [List.filter_eq_nil_iff]
    intro j _
    rw [h.rest (n + j) (by omega)]
    decide
  rw [this]
  simp
end Go.Proofs.YtbgmkplpolgebaaGreatDoor

namespace Go.Proofs.YtbgmkplpolgebaaGreatDoor
set_option linter.unusedSimpArgs false
set_option linter.unusedVariables false
open Go.RowKit Go.Shelf

theorem rright_any (n : Nat) (w : World) (hn : n ≤ 4096) : Calls Tryz.prog 105 #[.int .i64 n] w fun e w' => e = .returned (.bool true) ∧ w = w' := by
  have h0 : decide ((n : Int) ≥ 0) = true := decide_eq_true (by omega)
  have h1 : decide ((n : Int) ≤ 4096) = true := decide_eq_true (by omega)
  have h2 : decide (0 ≤ (n : Int)) = true := decide_eq_true (by omega)
  go_enter Tryz.func105, Tryz.ntmps105
  go_wp2
  go_ret
  exact ⟨rfl, rfl⟩
theorem rlong_any (n : Nat) (w : World) (hn : n ≤ 4096) : Calls Tryz.prog 150 #[.int .i64 n] w fun e w' => e = .returned (.int .i64 ((n + 7) / 8 : Nat)) ∧ w = w' := by
  have hq : ((n : Int) + 7).tdiv 8 = (((n + 7) / 8 : Nat) : Int) := by rw [Int.tdiv_eq_ediv_of_nonneg (by omega)]; omega
  have hq2 : ((n : Int) + 7) / 8 = (((n + 7) / 8 : Nat) : Int) := by omega
  have hw1 : IntKind.i64.wrap ((n : Int) + 7) = (n : Int) + 7 := by rw [IntKind.wrap_i64]; omega
  obtain ⟨K, hK⟩ : ∃ K, K = (n + 7) / 8 := ⟨_, rfl⟩
  rw [← hK] at hq hq2
  rw [← hK]
  clear hK
  go_enter Tryz.func150, Tryz.ntmps150
  go_wp2
  go_ret
  exact ⟨rfl, rfl⟩
theorem half_bit (b : UInt8) (j : Nat) (hj : j < 8) : (((b.toNat / 2 ^ (7 - j) : Nat) : Int) % 2 == 1) = bitB b j := by
  unfold bitB
  rw [Bool.eq_iff_iff, beq_iff_eq, decide_eq_true_eq]
  omega
set_option maxRecDepth 100000 in
set_option maxHeartbeats 4000000 in
theorem rat_any (s : ByteArray) (i : Nat) (w : World) (hi : i / 8 < s.size) (hs : s.size ≤ 70000) : Calls Tryz.prog 111 #[.string s, .int .i64 i] w fun e w' => e = .returned (.bool (bitL s.data.toList i)) ∧ w = w' := by
  have hb := byte_at' s hi
  have hq : ((i : Int)).tdiv 8 = ((i / 8 : Nat) : Int) := by rw [Int.tdiv_eq_ediv_of_nonneg (by omega)]; omega
  have hq2 : (i : Int) / 8 = ((i / 8 : Nat) : Int) := by omega
  have hr : ((i : Int)).tmod 8 = ((i % 8 : Nat) : Int) := by rw [Int.tmod_eq_emod_of_nonneg (by omega)]; omega
  have hr2 : (i : Int) % 8 = ((i % 8 : Nat) : Int) := by omega
  have HB := hid (show bitL s.data.toList i = bitB s[i / 8] (i % 8) by unfold bitL; rw [List.getD_eq_getElem?_getD, hb]; rfl)
  obtain ⟨K, hK⟩ : ∃ K, K = i / 8 := ⟨_, rfl⟩
  obtain ⟨J, hJ⟩ : ∃ J, J = i % 8 := ⟨_, rfl⟩
  have hJ8 : J < 8 := by omega
  have hKs : K < s.size := by omega
  obtain ⟨V, hV⟩ : ∃ V, V = bitL s.data.toList i := ⟨_, rfl⟩
  have HVB : Hid (V = bitB s[K] J) := hid (by rw [hV, HB.out]; subst hK hJ; rfl)
  rw [← hV]
  rw [← hK] at hq hq2
  rw [← hJ] at hr hr2
  have hw : IntKind.i64.wrap (7 - (J : Int)) = 7 - (J : Int) := by rw [IntKind.wrap_i64]; omega
  have hKI : (K : Int) < (s.size : Int) := by omega
  clear hK hJ hV hb HB hi
  have hbl := s[K].toNat_lt
  go_enter Tryz.func111, Tryz.ntmps111
  go_wp2
  go_loop [14, 5] (fun i c => ∃ (k : Nat), i = .int .i64 k ∧ c = .int .i64 ((s[K].toNat / 2 ^ k : Nat) : Int) ∧ k ≤ 7 - J) (fun i _ => 7 - J - (intOf i).toNat)
  case atStart => exact ⟨0, rfl, by simp, by omega⟩
  case round =>
    obtain ⟨k, rfl, rfl, hk⟩ := hrel
    have hle : s[K].toNat / 2 ^ k ≤ 255 := by have := Nat.div_le_self s[K].toNat (2 ^ k); omega
    by_cases hlt : k < 7 - J
    · have hltI : (k : Int) < 7 - (J : Int) := by omega
      have hd : s[K].toNat / 2 ^ (k + 1) = s[K].toNat / 2 ^ k / 2 := by rw [Nat.pow_succ, Nat.div_div_eq_div_mul]
      obtain ⟨Y, hY⟩ : ∃ Y, Y = s[K].toNat / 2 ^ k := ⟨_, rfl⟩
      rw [← hY] at hle hd
      rw [← hY]
      have hd2 : ((Y : Int)).tdiv 2 = ((Y / 2 : Nat) : Int) := by rw [Int.tdiv_eq_ediv_of_nonneg (by omega)]; omega
      have hd3 : (Y : Int) / 2 = ((Y / 2 : Nat) : Int) := by omega
      obtain ⟨Z, hZ⟩ : ∃ Z, Z = Y / 2 := ⟨_, rfl⟩
      rw [← hZ] at hd hd2 hd3
      have HD := hid hd
      have hd4 : IntKind.i64.wrap ((Z : Nat) : Int) = (Z : Int) := by rw [IntKind.wrap_i64]; omega
      have hZl : Z ≤ 255 := by omega
      clear hd hY hZ
      go_wp2
      exact ⟨⟨k + 1, by simp, by rw [HD.out], by omega⟩, by simp [intOf]; omega⟩
    · have hkk : k = 7 - J := by omega
      have hltI : ¬ (k : Int) < 7 - (J : Int) := by omega
      have hh := half_bit s[K] J hJ8
      rw [← hkk, ← HVB.out] at hh
      obtain ⟨Y, hY⟩ : ∃ Y, Y = s[K].toNat / 2 ^ k := ⟨_, rfl⟩
      rw [← hY] at hle hh
      rw [← hY]
      have hd2 : ((Y : Int)).tmod 2 = (Y : Int) % 2 := by rw [Int.tmod_eq_emod_of_nonneg (by omega)]
      clear hY hkk
      go_wp2
      go_ret
      exact ⟨rfl, rfl⟩
set_option maxRecDepth 100000 in
set_option maxHeartbeats 4000000 in
theorem rwrong_ok (n : Nat) (s : ByteArray) (w : World) (h : FieldOf n s.data.toList) (hn : n ≤ 4096) : Calls Tryz.prog 178 #[.int .i64 n, .string s] w fun e w' => e = .returned (.tuple #[.int .i64 (-1), .int .i64 0]) ∧ w = w' := by
  have hlen : s.data.toList.length = s.size := by rw [Array.length_toList]; rfl
  have hl := h.len
  rw [hlen] at hl
  have HAT := hid (fun (i : Nat) (q : n ≤ i) (q2 : i < 8 * s.size) W => (h.rest i q) ▸ rat_any s i W (by omega) (by omega))
  have HR := hid (fun W => rright_any n W hn)
  have HL := hid (fun W => rlong_any n W hn)
  rw [← hl] at HL
  have hss : s.size ≤ 512 := by omega
  have hn8 : n ≤ 8 * s.size := by omega
  have hd1 : decide ((s.size : Int) < (s.size : Int)) = false := decide_eq_false (by omega)
  clear hl h hlen
  go_enter Tryz.func178, Tryz.ntmps178
  go_wp2_with (first | (go_at_call 105; refine (HR.out _).mono ?_; rintro e w1 ⟨rfl, rfl⟩) | (go_at_call 150; refine (HL.out _).mono ?_; rintro e w1 ⟨rfl, rfl⟩) | fail)
  go_loop [6] (fun i => ∃ (k : Nat), i = .int .i64 k ∧ n ≤ k ∧ k ≤ 8 * s.size) (fun i => 8 * s.size - (intOf i).toNat)
  case atStart => exact ⟨n, rfl, by omega, hn8⟩
  case round =>
    obtain ⟨k, rfl, hk, hk2⟩ := hrel
    have hm : IntKind.i64.wrap (8 * (s.size : Int)) = 8 * (s.size : Int) := by rw [IntKind.wrap_i64]; omega
    by_cases hlt : k < 8 * s.size
    · have hltI : (k : Int) < 8 * (s.size : Int) := by omega
      go_wp2_with (first | (go_at_call 150; refine (HL.out _).mono ?_; rintro e w1 ⟨rfl, rfl⟩) | (go_at_call 111; refine (HAT.out k hk hlt _).mono ?_; rintro e w1 ⟨rfl, rfl⟩) | fail)
      exact ⟨⟨k + 1, by simp, by omega, by omega⟩, by simp [intOf]; omega⟩
    · have hltI : ¬ (k : Int) < 8 * (s.size : Int) := by omega
      go_wp2_with (first | (go_at_call 150; refine (HL.out _).mono ?_; rintro e w1 ⟨rfl, rfl⟩) | fail)
      go_ret2
      exact ⟨rfl, rfl⟩
theorem rvalid_ok (n : Nat) (s : ByteArray) (w : World) (h : FieldOf n s.data.toList) (hn : n ≤ 4096) : Calls Tryz.prog 151 #[.int .i64 n, .string s] w fun e w' => e = .returned (.bool true) ∧ w = w' := by
  have HW := hid (rwrong_ok n s w h hn)
  clear h
  go_enter Tryz.func151, Tryz.ntmps151
  go_wp2_with fail
  refine HW.out.mono ?_
  rintro e w1 ⟨rfl, rfl⟩
  go_wp2
  go_ret
  exact ⟨rfl, rfl⟩
theorem rcheck_ok (n : Nat) (s : ByteArray) (w : World) (h : FieldOf n s.data.toList) (hn : n ≤ 4096) : Calls Tryz.prog 107 #[.int .i64 n, .string s] w fun e w' => e = .returned (.int .i64 0) ∧ w = w' := by
  have HV := hid (fun W => rvalid_ok n s W h hn)
  have HR := hid (fun W => rright_any n W hn)
  clear h
  go_enter Tryz.func107, Tryz.ntmps107
  go_wp2_with (first | (go_at_call 105; refine (HR.out _).mono ?_; rintro e w1 ⟨rfl, rfl⟩) | (go_at_call 151; refine (HV.out _).mono ?_; rintro e w1 ⟨rfl, rfl⟩) | fail)
  go_ret
  exact ⟨rfl, rfl⟩
end Go.Proofs.YtbgmkplpolgebaaGreatDoor

namespace Go.Proofs.YtbgmkplpolgebaaGreatDoor
set_option linter.unusedSimpArgs false
set_option linter.unusedVariables false
open Go.ChangeShapes Go.WideShapes Go.Deep Go.RowKit
section
variable {H : Type} {enc : TypeId × Value → H} {P : Program} {w : World} {base : Nat} {spare : Nat → Bool} {held : Bool}
theorem open_slice_fields {t e : TypeId} {fs : Array Field} {fuel : Nat} {cs : List Value} {x : DataW H × List MemPlace} (ht : P.underlying t = some (.slice e)) (he : P.underlying e = some (.struct fs))
    (hone : oneCellFields P fs = true) (hC : P.cellsOf e = fs.size) (h : DataW.trod enc P w base spare held fuel t cs = some x) :
    (cs = [.slice none 0 0] ∧ x = (.nil, [])) ∨
    ∃ (a : Addr) (len cap m : Nat) (D : Nat → DataW H) (Pl : Nat → List MemPlace), cs = [.slice (some a) len cap] ∧ base ≤ a.block ∧ len ≤ cap ∧ cap ≤ maxLen ∧ m = (if spare a.block then cap else len) ∧
      x = (.slice ((List.range len).map D) ((List.range (m - len)).map fun j => D (len + j)), MemPlace.row a (m * fs.size) ++ (List.range m).flatMap Pl) ∧
      ∀ i, i < m → ∃ (ys : List (DataW H × List MemPlace)) (n : Nat), D i = .agg (ys.map (·.1)) ∧ Pl i = ys.flatMap (·.2) ∧ ys.length = fs.size ∧
        ∀ (j : Nat) (f : Field), fs[j]? = some f → ∃ (v : Value) (y : DataW H × List MemPlace), w.cell? (a.add (i * fs.size + j)) = some v ∧ ys[j]? = some y ∧ DataW.trod enc P w base spare held n f.type [v] = some y := by
  rcases open_slice ht h with h0 | ⟨a, len, cap, m, n, D, Pl, hcs, hb, hl, hm, hmm, hx, hi⟩
  · exact .inl h0
  · refine .inr ⟨a, len, cap, m, D, Pl, hcs, hb, hl, hm, hmm, by rw [hC] at hx; exact hx, fun i him => ?_⟩
    obtain ⟨cs', hc, ht'⟩ := hi i him
    rw [hC] at hc
    obtain ⟨ys, n', hn', hy, hlen, hyl, hf⟩ := DataW.trod_struct he ht'
    obtain ⟨_, hcl, hat⟩ := World.cells?_some hc
    simp only [Prod.mk.injEq] at hy
    refine ⟨ys, n', hy.1, hy.2, hyl, fun j f hj => ?_⟩
    obtain ⟨ho, hk⟩ := hone_of hone j f hj
    have hjl : j < fs.size := (Array.getElem?_eq_some_iff.1 hj).1
    have hcell := hat j hjl
    have hv : cs'[j]? = some (cs'[j]'(by omega)) := List.getElem?_eq_getElem (by omega)
    have h1 := hf j f hj
    rw [ho, hk] at h1
    have hone' : (cs'.drop j).take 1 = [cs'[j]'(by omega)] := by
      rw [List.drop_eq_getElem_cons (by omega)]
      rfl
    rw [hone'] at h1
    have hys : ys[j]? = some (ys[j]'(by omega)) := List.getElem?_eq_getElem (by omega)
    refine ⟨_, _, ?_, hys, h1.trans hys⟩
    rw [← Go.Deep.add_add, hcell, hv]
end
/-- As many things as there are places, one for each place. -/
theorem list_of {α : Type} {p : Nat → α → Prop} (n : Nat) (h : ∀ i, i < n → ∃ x, p i x) : ∃ l : List α, l.length = n ∧ ∀ i x, l[i]? = some x → p i x := by
  induction n with
  | zero => exact ⟨[], rfl, fun i x hx => by simp at hx⟩
  | succ n ih =>
    obtain ⟨l, hl, hp⟩ := ih (fun i hi => h i (by omega))
    obtain ⟨x, hx⟩ := h n (by omega)
    refine ⟨l ++ [x], by simp [hl], fun i y hy => ?_⟩
    by_cases hi : i < n
    · rw [List.getElem?_append_left (by omega)] at hy
      exact hp i y hy
    · have hlt : i < (l ++ [x]).length := (List.getElem?_eq_some_iff.1 hy).1
      simp at hlt
      have : i = n := by omega
      subst this
      rw [List.getElem?_append_right (by omega), hl] at hy
      simp at hy
      exact hy ▸ hx
theorem cell_spot {w : World} {a : Addr} {v : Value} (h : w.cell? a = some v) : a.spot = none := by
  unfold World.cell? at h
  split at h
  · split at h
    · cases h
    · next hs => cases hq : a.spot <;> simp_all
  · cases h
theorem add_none (b off i : Nat) : (⟨b, off, none⟩ : Addr).add i = ⟨b, off + i, none⟩ := by
  unfold Addr.add
  split
  · next h => subst h; rfl
  · rfl
end Go.Proofs.YtbgmkplpolgebaaGreatDoor

namespace Go.Proofs.YtbgmkplpolgebaaGreatDoor
set_option linter.unusedSimpArgs false
set_option linter.unusedVariables false
open Go.RowKit Go.Shelf

theorem info_boolB : (Tryz.prog.info? 4).map (fun i => (i.zero, i.size, i.bytes)) = some (some (.bool false), 1, 1) := by kernel_rfl
theorem info_intB : (Tryz.prog.info? 3).map (fun i => (i.zero, i.size, i.bytes)) = some (some (.int .i64 0), 1, 8) := by kernel_rfl
/-- A row of cells of one each, of the call's own. -/
def OwnC (w : World) (t : TypeId) (base : Nat) (v : Value) (l : List Value) : Prop := w.ownsRow base t 1 v l.length l
theorem OwnC.nil (w : World) (t : TypeId) (base : Nat) : OwnC w t base (.slice none 0 0) [] := World.ownsRow_nil _ _ _ _
theorem OwnC.mod {S : Nat → Prop} {w w' : World} {t : TypeId} {base : Nat} {v : Value} {l : List Value} (h : OwnC w t base v l) (n : Mod S w w') (hs : ∀ k, base ≤ k → k < w.heap.size → ¬ S k) : OwnC w' t base v l := by
  refine ⟨h.1, ?_⟩
  rcases h.2 with h1 | ⟨g, cap, cur, rfl, hbg, hg, r⟩
  · exact .inl h1
  · have hlt := (Array.getElem?_eq_some_iff.1 hg).1
    exact .inr ⟨g, cap, cur, rfl, hbg, (n.block g hlt (hs g hbg hlt)).trans hg, r⟩
theorem OwnC.new {w w' : World} {t : TypeId} {base : Nat} {v : Value} {l : List Value} (h : OwnC w t base v l) (n : New w w') : OwnC w' t base v l := h.mod n (fun _ _ _ x => x)
theorem OwnC.form {w : World} {t : TypeId} {base : Nat} {v : Value} {l : List Value} (h : OwnC w t base v l) : ∃ a c, v = .slice a l.length c ∧ (∀ g, v.ownBlock = some g → base ≤ g) ∧ l.length ≤ c ∧ c ≤ maxLen ∧ (l = [] ∨ ∃ g, a = some ⟨g, 0, none⟩ ∧ g < w.heap.size ∧ base ≤ g ∧ (∃ cs, Blk w g cs t) ∧ ∀ (i : Nat) (hi : i < l.length), w.cell? ⟨g, i, none⟩ = some l[i]) := by
  have h0 := h
  rcases h.2 with ⟨rfl, hn⟩ | ⟨g, cap, cur, rfl, hbg, hg, hnc, hcm, hcs, htake⟩
  · exact ⟨none, 0, by rw [hn], (fun g q => by cases q), by omega, by unfold maxLen; omega, .inl (List.eq_nil_of_length_eq_zero hn)⟩
  · refine ⟨_, cap, rfl, (fun g' q => by
      have : g = g' := by simpa [Value.ownBlock] using q
      omega), hnc, hcm, .inr ⟨g, rfl, (Array.getElem?_eq_some_iff.1 hg).1, hbg, ⟨cur, hg⟩, fun i hi => ?_⟩⟩
    have h1 := World.ownsRow.cells (g := g) h0 rfl i l[i] (List.getElem?_eq_getElem hi)
    rw [addrN, Nat.zero_add] at h1
    exact h1
theorem OwnC.base' {w : World} {t : TypeId} {base base' : Nat} {v : Value} {l : List Value} (h : OwnC w t base v l) (hb : base' ≤ base) : OwnC w t base' v l := by
  refine ⟨h.1, ?_⟩
  rcases h.2 with h1 | ⟨g, cap, cur, e, hbg, rest⟩
  · exact .inl h1
  · exact .inr ⟨g, cap, cur, e, Nat.le_trans hb hbg, rest⟩
theorem one_newC (w : World) (x : Value) (t : TypeId) {b : Nat} (hb : b = w.heap.size) : ∀ (j : Nat) (u : Value), [x][j]? = some u → (w.alloc (.cells #[x] t)).cell? ((⟨b, 0, none⟩ : Addr).add j) = some u := by
  intro j u hj
  rw [addrN]
  match j, hj with
  | 0, hj => simp at hj; subst hj; exact (Blk.newAt hb).cellv 0 rfl
theorem numsL_leB (n : Nat) (s : List UInt8) : (numsL n s).length ≤ n := by
  unfold numsL
  have := List.length_filter_le (fun i => bitL s i) (List.range n)
  simpa using this
def bitV (s : List UInt8) (n : Nat) : List Value := (List.range n).map (fun i => Value.bool (bitL s i))
theorem bitV_succ (s : List UInt8) (n : Nat) : bitV s (n + 1) = bitV s n ++ [.bool (bitL s n)] := by unfold bitV; rw [List.range_succ, List.map_append]; rfl
theorem bitV_len (s : List UInt8) (n : Nat) : (bitV s n).length = n := by unfold bitV; simp
def numV (N : List Nat) : List Value := N.map (fun (i : Nat) => Value.int .i64 (i : Int))
set_option maxRecDepth 100000 in
set_option maxHeartbeats 4000000 in
theorem rtruths_any (n : Nat) (s : ByteArray) (w : World) (h : FieldOf n s.data.toList) (hn : n ≤ 4096) : Calls Tryz.prog 108 #[.int .i64 n, .string s] w fun e w' => ∃ v, e = .returned v ∧ OwnC w' 4 w.heap.size v (bitV s.data.toList n) ∧ New w w' := by
  have hlen : s.data.toList.length = s.size := by rw [Array.length_toList]; rfl
  have hl := h.len
  rw [hlen] at hl
  have HAT := hid (fun (i : Nat) (q : i < n) W => rat_any s i W (by omega) (by omega))
  obtain ⟨i0, hi, hz0, hz1, hz2⟩ := info_parts info_boolB
  obtain ⟨B, hB⟩ : ∃ B, B = s.data.toList := ⟨_, rfl⟩
  rw [← hB] at HAT ⊢
  clear hl h hlen hB
  go_enter Tryz.func108, Tryz.ntmps108
  go_wp2
  go_loopw [8, 5] (fun i o wr => ∃ (k : Nat) (v : Value), i = .int .i64 k ∧ v = o ∧ k ≤ n ∧ OwnC wr 4 w.heap.size v (bitV B k) ∧ New w wr) (fun i _ _ => n - (intOf i).toNat)
  case atStart => exact ⟨0, _, rfl, rfl, by omega, OwnC.nil _ _ _, Mod.refl _ _⟩
  case round =>
    obtain ⟨k, v, rfl, rfl, hk, hO, hN⟩ := hrel
    have HO := hid hO; have HN := hid hN
    have hkl := bitV_len B k
    clear hO hN
    by_cases hlt : k < n
    · have hltI : (k : Int) < (n : Int) := by omega
      have HAK := hid (fun W => HAT.out k hlt W)
      have HBS := hid (bitV_succ B k)
      have HKL := hid hkl
      obtain ⟨L, hL⟩ : ∃ L, L = bitV B k := ⟨_, rfl⟩
      obtain ⟨X, hX⟩ : ∃ X, X = bitL B k := ⟨_, rfl⟩
      rw [← hL] at HO HKL hkl HBS
      rw [← hX] at HAK HBS
      clear hL hX
      go_wp2_with fail
      refine (HAK.out _).mono ?_
      rintro e w5 ⟨rfl, rfl⟩
      go_wp2_with (first | (at_builtin; refine wpList_append_own_at _ rfl _ _ 129 rfl w.heap.size 4 i0 _ 1 1 Tryz.underlying129 hi hz0 hz1 hz2 rfl (by decide) v L.length L rfl ?ow ⟨wr.heap.size, 0, none⟩ 1 1 [.bool X] rfl rfl ?hn ?h1 ?h63 ?hby ?hba ?_) | fail)
      case ow => exact HO.out.new ((Mod.refl _ _).alloc _)
      case hn => exact fun j u hj => one_newC wr _ _ rfl j u hj
      case h1 => intro u hu; simp at hu; subst hu; rfl
      case h63 => unfold maxLen; omega
      case hby => omega
      case hba => have := HN.out.size; simp; omega
      intro o6 w6 r6 g6 _ _
      have O6 : Hid (OwnC w6 4 w.heap.size o6 (L ++ [.bool X])) := hid (by
        unfold OwnC
        rw [List.length_append, hkl]
        exact r6)
      have N6 : Hid (New w w6) := hid (newGrown (HN.out.alloc _) g6 (fun j hj => by
        obtain ⟨_, _, -, hb, -⟩ := HO.out.form
        exact hb j hj))
      clear r6 g6
      go_wp2
      exact ⟨⟨k + 1, _, by simp, rfl, by omega, by rw [HBS.out]; exact O6.out, N6.out⟩, by simp [intOf]; omega⟩
    · obtain rfl : k = n := by omega
      clear hkl
      go_wp2
      go_ret
      exact ⟨_, rfl, HO.out, HN.out⟩
set_option maxRecDepth 100000 in
set_option maxHeartbeats 4000000 in
theorem rnumbers_any (n : Nat) (B : List UInt8) (vb : Value) (base : Nat) (w : World) (hn : n ≤ 4096) (h : OwnC w 4 base vb (bitV B n)) : Calls Tryz.prog 152 #[vb] w fun e w' => ∃ v, e = .returned v ∧ OwnC w' 3 w.heap.size v (numV (numsL n B)) ∧ New w w' := by
  obtain ⟨a, c, rfl, -, hc1, hc2, hat⟩ := h.form
  have hbl := bitV_len B n
  have HAT : Hid (n = 0 ∨ ∃ g, a = some ⟨g, 0, none⟩ ∧ ∀ (i : Nat), i < n → w.cell? ⟨g, i, none⟩ = some (.bool (bitL B i))) := hid (by
    rcases hat with q | ⟨g, q1, -, -, -, q2⟩
    · rw [q] at hbl
      exact .inl (by simpa using hbl.symm)
    · refine .inr ⟨g, q1, fun i hi => ?_⟩
      rw [q2 i (by rw [hbl]; exact hi)]
      unfold bitV
      simp)
  rw [hbl] at hc1 ⊢
  unfold maxLen at hc2
  obtain ⟨i0, hi, hz0, hz1, hz2⟩ := info_parts info_intB
  have HLE := hid (fun k => numsL_leB k B)
  clear h hat hbl
  go_enter Tryz.func152, Tryz.ntmps152
  go_wp2
  go_loopw [8, 3] (fun i o wr => ∃ (k : Nat) (v : Value), i = .int .i64 k ∧ v = o ∧ k ≤ n ∧ OwnC wr 3 w.heap.size v (numV (numsL k B)) ∧ New w wr) (fun i _ _ => n - (intOf i).toNat)
  case atStart => exact ⟨0, _, rfl, rfl, by omega, OwnC.nil _ _ _, Mod.refl _ _⟩
  case round =>
    obtain ⟨k, v, rfl, rfl, hk, hO, hN⟩ := hrel
    have HO := hid hO; have HN := hid hN
    clear hO hN
    by_cases hlt : k < n
    · have hltI : (k : Int) < (n : Int) := by omega
      rcases HAT.out with hnil | ⟨g, rfl, hcc⟩
      · omega
      · have g0 := New.cellv HN.out (hcc k hlt)
        have hsc := numsL_succ k B
        have hle := HLE.out k
        cases hb : bitL B k with
        | true =>
          rw [hb] at g0 hsc
          rw [if_pos rfl] at hsc
          have HSC := hid (show numV (numsL (k + 1) B) = numV (numsL k B) ++ [.int .i64 (k : Int)] by rw [hsc]; unfold numV; rw [List.map_append]; rfl)
          have hLl : (numV (numsL k B)).length ≤ 4096 := by unfold numV; rw [List.length_map]; omega
          obtain ⟨L, hL⟩ : ∃ L, L = numV (numsL k B) := ⟨_, rfl⟩
          rw [← hL] at HO HSC hLl
          clear hL hb hsc hcc
          go_wp2_with (first | (at_builtin; refine wpList_append_own_at _ rfl _ _ 35 rfl w.heap.size 3 i0 _ 1 8 Tryz.underlying35 hi hz0 hz1 hz2 rfl (by decide) v L.length L rfl ?ow ⟨wr.heap.size, 0, none⟩ 1 1 [.int .i64 (k : Int)] rfl rfl ?hn ?h1 ?h63 ?hby ?hba ?_) | fail)
          case ow => exact HO.out.new ((Mod.refl _ _).alloc _)
          case hn => exact fun j u hj => one_newC wr _ _ rfl j u hj
          case h1 => intro u hu; simp at hu; subst hu; rfl
          case h63 => unfold maxLen; omega
          case hby => omega
          case hba => have := HN.out.size; simp; omega
          intro o6 w6 r6 g6 _ _
          have O6 : Hid (OwnC w6 3 w.heap.size o6 (L ++ [.int .i64 (k : Int)])) := hid (by
            unfold OwnC
            rw [List.length_append]
            exact r6)
          have N6 : Hid (New w w6) := hid (newGrown (HN.out.alloc _) g6 (fun j hj => by
            obtain ⟨_, _, -, hb, -⟩ := HO.out.form
            exact hb j hj))
          clear r6 g6
          go_wp2
          exact ⟨⟨k + 1, _, by simp, rfl, by omega, by rw [HSC.out]; exact O6.out, N6.out⟩, by simp [intOf]; omega⟩
        | false =>
          rw [hb] at g0 hsc
          rw [if_neg (by decide), List.append_nil] at hsc
          have HSC := hid hsc
          clear hb hsc hcc
          go_wp2
          exact ⟨⟨k + 1, _, by simp, rfl, by omega, by rw [HSC.out]; exact HO.out, HN.out⟩, by simp [intOf]; omega⟩
    · obtain rfl : k = n := by omega
      go_wp2
      go_ret
      exact ⟨_, rfl, HO.out, HN.out⟩
set_option maxRecDepth 100000 in
set_option maxHeartbeats 4000000 in
theorem rlist_any (n : Nat) (s : ByteArray) (w : World) (h : FieldOf n s.data.toList) (hn : n ≤ 4096) : Calls Tryz.prog 109 #[.int .i64 n, .string s] w fun e w' => ∃ v, e = .returned (.tuple #[v, .int .i64 0]) ∧ OwnC w' 3 w.heap.size v (numV (numsL n s.data.toList)) ∧ New w w' := by
  have HC := hid (fun W => rcheck_ok n s W h hn)
  have HT := hid (fun W => rtruths_any n s W h hn)
  have HNU := hid (fun vb base W q => rnumbers_any n s.data.toList vb base W hn q)
  clear h
  go_enter Tryz.func109, Tryz.ntmps109
  go_wp2_with fail
  refine (HC.out _).mono ?_
  rintro e w1 ⟨rfl, rfl⟩
  go_wp2_with fail
  refine (HT.out _).mono ?_
  rintro e w2 ⟨v2, rfl, o2, n2⟩
  have O2 := hid o2
  have N2 := hid n2
  obtain ⟨a2, c2, hv2, -⟩ := o2.form
  have HNX := hid (fun W (q : OwnC W 4 w.heap.size v2 (bitV s.data.toList n)) => HNU.out v2 w.heap.size W q)
  clear o2 n2 hv2
  go_wp2_with fail
  refine (HNX.out _ O2.out).mono ?_
  rintro e w3 ⟨v3, rfl, o3, n3⟩
  have O3 := hid (o3.base' N2.out.size)
  have N3 := hid (N2.out.trans n3)
  clear o3 n3
  go_wp2
  go_ret2
  exact ⟨_, rfl, O3.out, N3.out⟩
end Go.Proofs.YtbgmkplpolgebaaGreatDoor
