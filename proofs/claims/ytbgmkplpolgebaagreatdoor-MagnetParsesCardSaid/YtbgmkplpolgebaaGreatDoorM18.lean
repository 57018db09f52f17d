/-
  Several texts in one, in their build order. Lists of runs in memory; the bits of a byte, one behind the other; the iterator over a field's bits. Conditions as told. The reference's bits: a bit, whether a field is right. Conditions: the field is right; at most 4096 bits. An argument that is a slice of structs (any number of one-cell fields): its cells. Over any program. No condition.
-/
import Derived.Test.YtbgmkplpolgebaaGreatDoorM16
import Derived.Test.YtbgmkplpolgebaaGreatDoorM13
import Derived.Test.YtbgmkplpolgebaaGreatDoorM3
import Derived.Test.YtbgmkplpolgebaaGreatDoorM17
import Derived.Maps.AppendAt
import Derived.Test.YtbgmkplpolgebaaGreatDoorM12
import Derived.Test.YtbgmkplpolgebaaGreatDoorM1
import Derived.Deep.Slices
import Derived.Deep.Fields
import Derived.ChangeSame
import Derived.ProofKit
import Derived.OpenShut
namespace Go.Proofs.YtbgmkplpolgebaaGreatDoor
set_option linter.unusedSimpArgs false
set_option linter.unusedVariables false
open Go.RowKit Go.Shelf
attribute [local go_sem] Oper.semAt_some

def runCells (s : Int × Int) : List Value := [.int .i64 s.1, .int .i64 s.2]
def runRow (U : List (Int × Int)) : List Value := U.flatMap runCells
theorem runRow_app (U V : List (Int × Int)) : runRow (U ++ V) = runRow U ++ runRow V := by unfold runRow; rw [List.flatMap_append]
theorem runRow_len (U : List (Int × Int)) : (runRow U).length = U.length * 2 := by
  induction U with
  | nil => rfl
  | cons x U ih => show (runCells x ++ runRow U).length = _; rw [List.length_append, ih]; simp [runCells]; omega
theorem runRow_at {U : List (Int × Int)} {i j : Nat} {s : Int × Int} (h : U[i]? = some s) (hj : j < 2) : (runRow U)[i * 2 + j]? = (runCells s)[j]? := by
  have hi := (List.getElem?_eq_some_iff.1 h).1
  have hsp : U = U.take i ++ s :: U.drop (i + 1) := by
    have e : U[i] = s := (List.getElem?_eq_some_iff.1 h).2
    rw [← e, List.getElem_cons_drop, List.take_append_drop]
  rw [hsp, runRow_app, List.getElem?_append_right (by rw [runRow_len, List.length_take]; omega), runRow_len, List.length_take, show i * 2 + j - min i U.length * 2 = j by omega]
  show (runCells s ++ runRow _)[j]? = _
  rw [List.getElem?_append_left (by simp [runCells]; omega)]
theorem addrN (b off i : Nat) : (⟨b, off, none⟩ : Addr).add i = ⟨b, off + i, none⟩ := by
  unfold Addr.add
  split
  · next h => subst h; rfl
  · rfl
def OwnR (w : World) (base : Nat) (v : Value) (U : List (Int × Int)) : Prop := w.ownsRow base 66 2 v U.length (runRow U)
/-- The slice v holds the runs U. -/
def RunsAt (w : World) (v : Value) (U : List (Int × Int)) : Prop :=
  ∃ a c, v = .slice a U.length c ∧ U.length ≤ c ∧ c ≤ maxLen ∧ (U = [] ∨ ∃ g o, a = some ⟨g, o, none⟩ ∧ g < w.heap.size ∧ ∀ (i : Nat) (hi : i < U.length), w.cell? ⟨g, o + i * 2, none⟩ = some (.int .i64 U[i].1) ∧ w.cell? ⟨g, o + i * 2 + 1, none⟩ = some (.int .i64 U[i].2))
theorem RunsAt.new {w w' : World} {v : Value} {U : List (Int × Int)} (h : RunsAt w v U) (hn : New w w') : RunsAt w' v U := by
  obtain ⟨a, c, e, h1, h2, h3⟩ := h
  refine ⟨a, c, e, h1, h2, ?_⟩
  rcases h3 with h3 | ⟨g, o, e2, hg, hc⟩
  · exact .inl h3
  · exact .inr ⟨g, o, e2, Nat.lt_of_lt_of_le hg hn.size, fun i hi => ⟨New.cellv hn (hc i hi).1, New.cellv hn (hc i hi).2⟩⟩
theorem OwnR.runs {w : World} {base : Nat} {v : Value} {U : List (Int × Int)} (h : OwnR w base v U) : RunsAt w v U := by
  have h0 := h
  rcases h.2 with ⟨rfl, hn⟩ | ⟨g, cap, cur, rfl, hbg, hg, hnc, hcm, hcs, htake⟩
  · have : U = [] := List.eq_nil_of_length_eq_zero hn
    subst this
    exact ⟨none, 0, rfl, by simp, by simp [maxLen], .inl rfl⟩
  · refine ⟨_, cap, rfl, hnc, hcm, .inr ⟨g, 0, rfl, (Array.getElem?_eq_some_iff.1 hg).1, fun i hi => ?_⟩⟩
    have hc : ∀ j u, j < 2 → (runCells U[i])[j]? = some u → w.cell? ⟨g, i * 2 + j, none⟩ = some u := by
      intro j u hj hu
      have h1 := World.ownsRow.cells (g := g) h0 rfl (i * 2 + j) u (by rw [runRow_at (List.getElem?_eq_getElem hi) hj]; exact hu)
      rw [addrN] at h1
      simpa using h1
    simp only [Nat.zero_add]
    exact ⟨hc 0 _ (by omega) rfl, hc 1 _ (by omega) rfl⟩
theorem OwnR.base {w : World} {base base' : Nat} {v : Value} {U : List (Int × Int)} (h : OwnR w base v U) (hb : base' ≤ base) : OwnR w base' v U := by
  refine ⟨h.1, ?_⟩
  rcases h.2 with h1 | ⟨g, cap, cur, e, hbg, rest⟩
  · exact .inl h1
  · exact .inr ⟨g, cap, cur, e, Nat.le_trans hb hbg, rest⟩
theorem info_runB : (Tryz.prog.info? 66).map (fun i => (i.zero, i.size, i.bytes)) = some (some (.agg #[.int .i64 0, .int .i64 0]), 2, 16) := by kernel_rfl
theorem OwnR.nil (w : World) (base : Nat) : OwnR w base (.slice none 0 0) [] := World.ownsRow_nil _ _ _ _
theorem OwnR.mod {S : Nat → Prop} {w w' : World} {base : Nat} {v : Value} {U : List (Int × Int)} (h : OwnR w base v U) (n : Mod S w w') (hs : ∀ k, base ≤ k → k < w.heap.size → ¬ S k) : OwnR w' base v U := by
  refine ⟨h.1, ?_⟩
  rcases h.2 with h1 | ⟨g, cap, cur, rfl, hbg, hg, r⟩
  · exact .inl h1
  · have hlt := (Array.getElem?_eq_some_iff.1 hg).1
    exact .inr ⟨g, cap, cur, rfl, hbg, (n.block g hlt (hs g hbg hlt)).trans hg, r⟩
theorem OwnR.new {w w' : World} {base : Nat} {v : Value} {U : List (Int × Int)} (h : OwnR w base v U) (n : New w w') : OwnR w' base v U := h.mod n (fun _ _ _ x => x)
theorem OwnR.at' {w : World} {base : Nat} {v : Value} {U : List (Int × Int)} (h : OwnR w base v U) (hU : 0 < U.length) : ∃ g cap, v = .slice (some ⟨g, 0, none⟩) U.length cap ∧ base ≤ g ∧ g < w.heap.size ∧ (∃ cs, Blk w g cs 66) ∧ (∀ i, w.frozen? ⟨g, i, none⟩ = false) ∧ U.length ≤ cap ∧ cap ≤ maxLen ∧ ∀ (i : Nat) (hi : i < U.length), w.cell? ⟨g, i * 2, none⟩ = some (.int .i64 U[i].1) ∧ w.cell? ⟨g, i * 2 + 1, none⟩ = some (.int .i64 U[i].2) := by
  have h0 := h
  rcases h.2 with ⟨rfl, hn⟩ | ⟨g, cap, cur, rfl, hbg, hg, hnc, hcm, hcs, htake⟩
  · omega
  · refine ⟨g, cap, rfl, hbg, (Array.getElem?_eq_some_iff.1 hg).1, ⟨cur, hg⟩, fun i => by simp [World.frozen?, hg], hnc, hcm, fun i hi => ?_⟩
    have hc : ∀ j u, j < 2 → (runCells U[i])[j]? = some u → w.cell? ⟨g, i * 2 + j, none⟩ = some u := by
      intro j u hj hu
      have h1 := World.ownsRow.cells (g := g) h0 rfl (i * 2 + j) u (by rw [runRow_at (List.getElem?_eq_getElem hi) hj]; exact hu)
      rw [addrN] at h1
      simpa using h1
    exact ⟨hc 0 _ (by omega) rfl, hc 1 _ (by omega) rfl⟩
theorem runRow_put (A : List (Int × Int)) (r : Int × Int) (x : Int) : (runRow (A ++ [r])).set (A.length * 2 + 1) (.int .i64 x) = runRow (A ++ [(r.1, x)]) := by
  rw [runRow_app, runRow_app, List.set_append_right _ _ (by rw [runRow_len]; omega), runRow_len, show A.length * 2 + 1 - A.length * 2 = 1 by omega]
  rfl
theorem OwnR.put {w : World} {base g cap n : Nat} {A : List (Int × Int)} {r : Int × Int} (h : OwnR w base (.slice (some ⟨g, 0, none⟩) n cap) (A ++ [r])) (x : Int) :
    OwnR (w.setCell ⟨g, A.length * 2 + 1, none⟩ (.int .i64 x)) base (.slice (some ⟨g, 0, none⟩) n cap) (A ++ [(r.1, x)]) := by
  rcases h.2 with ⟨q, -⟩ | ⟨g', cap', cur, q, hbg, hg, hnc, hcm, hcs, htake⟩
  · cases q
  · injection q with q1 q2 q3
    injection q1 with q1
    injection q1 with q1
    subst q1 q2 q3
    have hb : Blk w g cur 66 := hg
    have hs := hb.set (A.length * 2 + 1) (.int .i64 x)
    refine ⟨?_, .inr ⟨g, cap, cur.setIfInBounds (A.length * 2 + 1) (.int .i64 x), ?_, hbg, hs, ?_, hcm, by simpa using hcs, ?_⟩⟩
    · have := h.1
      simp only [List.length_append, List.length_singleton, runRow_len] at this ⊢
    · simp
    · simpa using hnc
    · rw [← runRow_put, Array.toList_setIfInBounds, ← htake, show (A ++ [(r.1, x)]).length * 2 = (A ++ [r]).length * 2 by simp]
      exact list_take_set _ _ _ _ (by simp; omega)
/-! ### the bits of a byte -/
def setBits (b : UInt8) : List Nat := (List.range 8).filter (bitB b)
theorem setBits_zero : setBits 0 = [] := by decide +kernel
theorem setBits_step (b : UInt8) (h : b ≠ 0) : ∃ i : Nat, (8 - (Lib.bitLen (b.toNat : Int).toNat : Int)) = (i : Int) ∧ i < 8 ∧ setBits b = i :: setBits (setB b i false) := by
  have key : ∀ n : Nat, n < 256 → n ≠ 0 → Lib.bitLen n ≤ 8 ∧ 8 - Lib.bitLen n < 8 ∧ setBits (UInt8.ofNat n) = (8 - Lib.bitLen n) :: setBits (setB (UInt8.ofNat n) (8 - Lib.bitLen n) false) := by decide +kernel
  have hn : b.toNat ≠ 0 := fun q => h (UInt8.toNat_inj.1 q)
  obtain ⟨k1, k2, k3⟩ := key b.toNat b.toNat_lt hn
  rw [UInt8.ofNat_toNat] at k3
  exact ⟨8 - Lib.bitLen b.toNat, by rw [Int.toNat_natCast]; omega, k2, k3⟩
theorem numsL_more (a : Nat) (s : List UInt8) : ∀ m, numsL (a + m) s = numsL a s ++ ((List.range m).filter (fun j => bitL s (a + j))).map (a + ·)
  | 0 => by simp
  | m + 1 => by
    rw [show a + (m + 1) = (a + m) + 1 by omega, numsL_succ, numsL_more a s m, List.range_succ, List.filter_append, List.map_append, List.append_assoc]
    congr 1
    congr 1
    cases h : bitL s (a + m) <;> simp [h]
theorem numsL_byte (s : List UInt8) (k : Nat) (hk : k < s.length) : numsL (8 * (k + 1)) s = numsL (8 * k) s ++ (setBits s[k]).map (8 * k + ·) := by
  rw [show 8 * (k + 1) = 8 * k + 8 by omega, numsL_more]
  congr 1
  unfold setBits
  congr 1
  apply List.filter_congr
  intro j hj
  have hj8 : j < 8 := by simpa using hj
  unfold bitL
  rw [show (8 * k + j) / 8 = k by omega, show (8 * k + j) % 8 = j by omega, List.getD_eq_getElem?_getD, List.getElem?_eq_getElem hk]
  rfl
theorem numsL_all {n : Nat} {s : List UInt8} (h : FieldOf n s) : numsL (8 * s.length) s = numsL n s := by
  have hl := h.len
  rw [show 8 * s.length = n + (8 * s.length - n) by omega, numsL_more]
  have : (List.range (8 * s.length - n)).filter (fun j => bitL s (n + j)) = [] := by
    rw [List.filter_eq_nil_iff]
    intro j _
    rw [h.rest (n + j) (by omega)]
    decide
  rw [this]
  simp
end Go.Proofs.YtbgmkplpolgebaaGreatDoor

namespace Go.Proofs.YtbgmkplpolgebaaGreatDoor
set_option linter.unusedSimpArgs false
set_option linter.unusedVariables false
open Go.RowKit Go.Shelf

theorem rright_any (n : Nat) (w : World) (hn : n ≤ 4096) : Calls Tryz.prog 105 #[.int .i64 n] w fun e w' => e = .returned (.bool true) ∧ w = w' := by
  have h0 : decide ((n : Int) ≥ 0) = true := decide_eq_true (by omega)
  have h1 : decide ((n : Int) ≤ 4096) = true := decide_eq_true (by omega)
  have h2 : decide (0 ≤ (n : Int)) = true := decide_eq_true (by omega)
  go_enter Tryz.func105, Tryz.ntmps105
  go_wp2
  go_ret
  exact ⟨rfl, rfl⟩
theorem rlong_any (n : Nat) (w : World) (hn : n ≤ 4096) : Calls Tryz.prog 150 #[.int .i64 n] w fun e w' => e = .returned (.int .i64 ((n + 7) / 8 : Nat)) ∧ w = w' := by
  have hq : ((n : Int) + 7).tdiv 8 = (((n + 7) / 8 : Nat) : Int) := by rw [Int.tdiv_eq_ediv_of_nonneg (by omega)]; omega
  have hq2 : ((n : Int) + 7) / 8 = (((n + 7) / 8 : Nat) : Int) := by omega
  have hw1 : IntKind.i64.wrap ((n : Int) + 7) = (n : Int) + 7 := by rw [IntKind.wrap_i64]; omega
  obtain ⟨K, hK⟩ : ∃ K, K = (n + 7) / 8 := ⟨_, rfl⟩
  rw [← hK] at hq hq2
  rw [← hK]
  clear hK
  go_enter Tryz.func150, Tryz.ntmps150
  go_wp2
  go_ret
  exact ⟨rfl, rfl⟩
theorem half_bit (b : UInt8) (j : Nat) (hj : j < 8) : (((b.toNat / 2 ^ (7 - j) : Nat) : Int) % 2 == 1) = bitB b j := by
  unfold bitB
  rw [Bool.eq_iff_iff, beq_iff_eq, decide_eq_true_eq]
  omega
set_option maxRecDepth 100000 in
set_option maxHeartbeats 4000000 in
theorem rat_any (s : ByteArray) (i : Nat) (w : World) (hi : i / 8 < s.size) (hs : s.size ≤ 70000) : Calls Tryz.prog 111 #[.string s, .int .i64 i] w fun e w' => e = .returned (.bool (bitL s.data.toList i)) ∧ w = w' := by
  have hb := byte_at' s hi
  have hq : ((i : Int)).tdiv 8 = ((i / 8 : Nat) : Int) := by rw [Int.tdiv_eq_ediv_of_nonneg (by omega)]; omega
  have hq2 : (i : Int) / 8 = ((i / 8 : Nat) : Int) := by omega
  have hr : ((i : Int)).tmod 8 = ((i % 8 : Nat) : Int) := by rw [Int.tmod_eq_emod_of_nonneg (by omega)]; omega
  have hr2 : (i : Int) % 8 = ((i % 8 : Nat) : Int) := by omega
  have HB := hid (show bitL s.data.toList i = bitB s[i / 8] (i % 8) by unfold bitL; rw [List.getD_eq_getElem?_getD, hb]; rfl)
  obtain ⟨K, hK⟩ : ∃ K, K = i / 8 := ⟨_, rfl⟩
  obtain ⟨J, hJ⟩ : ∃ J, J = i % 8 := ⟨_, rfl⟩
  have hJ8 : J < 8 := by omega
  have hKs : K < s.size := by omega
  obtain ⟨V, hV⟩ : ∃ V, V = bitL s.data.toList i := ⟨_, rfl⟩
  have HVB : Hid (V = bitB s[K] J) := hid (by rw [hV, HB.out]; subst hK hJ; rfl)
  rw [← hV]
  rw [← hK] at hq hq2
  rw [← hJ] at hr hr2
  have hw : IntKind.i64.wrap (7 - (J : Int)) = 7 - (J : Int) := by rw [IntKind.wrap_i64]; omega
  have hKI : (K : Int) < (s.size : Int) := by omega
  clear hK hJ hV hb HB hi
  have hbl := s[K].toNat_lt
  go_enter Tryz.func111, Tryz.ntmps111
  go_wp2
  go_loop [14, 5] (fun i c => ∃ (k : Nat), i = .int .i64 k ∧ c = .int .i64 ((s[K].toNat / 2 ^ k : Nat) : Int) ∧ k ≤ 7 - J) (fun i _ => 7 - J - (intOf i).toNat)
  case atStart => exact ⟨0, rfl, by simp, by omega⟩
  case round =>
    obtain ⟨k, rfl, rfl, hk⟩ := hrel
    have hle : s[K].toNat / 2 ^ k ≤ 255 := by have := Nat.div_le_self s[K].toNat (2 ^ k); omega
    by_cases hlt : k < 7 - J
    · have hltI : (k : Int) < 7 - (J : Int) := by omega
      have hd : s[K].toNat / 2 ^ (k + 1) = s[K].toNat / 2 ^ k / 2 := by rw [Nat.pow_succ, Nat.div_div_eq_div_mul]
      obtain ⟨Y, hY⟩ : ∃ Y, Y = s[K].toNat / 2 ^ k := ⟨_, rfl⟩
      rw [← hY] at hle hd
      rw [← hY]
      have hd2 : ((Y : Int)).tdiv 2 = ((Y / 2 : Nat) : Int) := by rw [Int.tdiv_eq_ediv_of_nonneg (by omega)]; omega
      have hd3 : (Y : Int) / 2 = ((Y / 2 : Nat) : Int) := by omega
      obtain ⟨Z, hZ⟩ : ∃ Z, Z = Y / 2 := ⟨_, rfl⟩
      rw [← hZ] at hd hd2 hd3
      have HD := hid hd
      have hd4 : IntKind.i64.wrap ((Z : Nat) : Int) = (Z : Int) := by rw [IntKind.wrap_i64]; omega
      have hZl : Z ≤ 255 := by omega
      clear hd hY hZ
      go_wp2
      exact ⟨⟨k + 1, by simp, by rw [HD.out], by omega⟩, by simp [intOf]; omega⟩
    · have hkk : k = 7 - J := by omega
      have hltI : ¬ (k : Int) < 7 - (J : Int) := by omega
      have hh := half_bit s[K] J hJ8
      rw [← hkk, ← HVB.out] at hh
      obtain ⟨Y, hY⟩ : ∃ Y, Y = s[K].toNat / 2 ^ k := ⟨_, rfl⟩
      rw [← hY] at hle hh
      rw [← hY]
      have hd2 : ((Y : Int)).tmod 2 = (Y : Int) % 2 := by rw [Int.tmod_eq_emod_of_nonneg (by omega)]
      clear hY hkk
      go_wp2
      go_ret
      exact ⟨rfl, rfl⟩
set_option maxRecDepth 100000 in
set_option maxHeartbeats 4000000 in
theorem rwrong_ok (n : Nat) (s : ByteArray) (w : World) (h : FieldOf n s.data.toList) (hn : n ≤ 4096) : Calls Tryz.prog 178 #[.int .i64 n, .string s] w fun e w' => e = .returned (.tuple #[.int .i64 (-1), .int .i64 0]) ∧ w = w' := by
  have hlen : s.data.toList.length = s.size := by rw [Array.length_toList]; rfl
  have hl := h.len
  rw [hlen] at hl
  have HAT := hid (fun (i : Nat) (q : n ≤ i) (q2 : i < 8 * s.size) W => (h.rest i q) ▸ rat_any s i W (by omega) (by omega))
  have HR := hid (fun W => rright_any n W hn)
  have HL := hid (fun W => rlong_any n W hn)
  rw [← hl] at HL
  have hss : s.size ≤ 512 := by omega
  have hn8 : n ≤ 8 * s.size := by omega
  have hd1 : decide ((s.size : Int) < (s.size : Int)) = false := decide_eq_false (by omega)
  clear hl h hlen
  go_enter Tryz.func178, Tryz.ntmps178
  go_wp2_with (first | (go_at_call 105; refine (HR.out _).mono ?_; rintro e w1 ⟨rfl, rfl⟩) | (go_at_call 150; refine (HL.out _).mono ?_; rintro e w1 ⟨rfl, rfl⟩) | fail)
  go_loop [6] (fun i => ∃ (k : Nat), i = .int .i64 k ∧ n ≤ k ∧ k ≤ 8 * s.size) (fun i => 8 * s.size - (intOf i).toNat)
  case atStart => exact ⟨n, rfl, by omega, hn8⟩
  case round =>
    obtain ⟨k, rfl, hk, hk2⟩ := hrel
    have hm : IntKind.i64.wrap (8 * (s.size : Int)) = 8 * (s.size : Int) := by rw [IntKind.wrap_i64]; omega
    by_cases hlt : k < 8 * s.size
    · have hltI : (k : Int) < 8 * (s.size : Int) := by omega
      go_wp2_with (first | (go_at_call 150; refine (HL.out _).mono ?_; rintro e w1 ⟨rfl, rfl⟩) | (go_at_call 111; refine (HAT.out k hk hlt _).mono ?_; rintro e w1 ⟨rfl, rfl⟩) | fail)
      exact ⟨⟨k + 1, by simp, by omega, by omega⟩, by simp [intOf]; omega⟩
    · have hltI : ¬ (k : Int) < 8 * (s.size : Int) := by omega
      go_wp2_with (first | (go_at_call 150; refine (HL.out _).mono ?_; rintro e w1 ⟨rfl, rfl⟩) | fail)
      go_ret2
      exact ⟨rfl, rfl⟩
theorem rvalid_ok (n : Nat) (s : ByteArray) (w : World) (h : FieldOf n s.data.toList) (hn : n ≤ 4096) : Calls Tryz.prog 151 #[.int .i64 n, .string s] w fun e w' => e = .returned (.bool true) ∧ w = w' := by
  have HW := hid (rwrong_ok n s w h hn)
  clear h
  go_enter Tryz.func151, Tryz.ntmps151
  go_wp2_with fail
  refine HW.out.mono ?_
  rintro e w1 ⟨rfl, rfl⟩
  go_wp2
  go_ret
  exact ⟨rfl, rfl⟩
theorem rcheck_ok (n : Nat) (s : ByteArray) (w : World) (h : FieldOf n s.data.toList) (hn : n ≤ 4096) : Calls Tryz.prog 107 #[.int .i64 n, .string s] w fun e w' => e = .returned (.int .i64 0) ∧ w = w' := by
  have HV := hid (fun W => rvalid_ok n s W h hn)
  have HR := hid (fun W => rright_any n W hn)
  clear h
  go_enter Tryz.func107, Tryz.ntmps107
  go_wp2_with (first | (go_at_call 105; refine (HR.out _).mono ?_; rintro e w1 ⟨rfl, rfl⟩) | (go_at_call 151; refine (HV.out _).mono ?_; rintro e w1 ⟨rfl, rfl⟩) | fail)
  go_ret
  exact ⟨rfl, rfl⟩
end Go.Proofs.YtbgmkplpolgebaaGreatDoor

namespace Go.Proofs.YtbgmkplpolgebaaGreatDoor
set_option linter.unusedSimpArgs false
set_option linter.unusedVariables false
open Go.ChangeShapes Go.WideShapes Go.Deep Go.RowKit
section
variable {H : Type} {enc : TypeId × Value → H} {P : Program} {w : World} {base : Nat} {spare : Nat → Bool} {held : Bool}
end
theorem add_none (b off i : Nat) : (⟨b, off, none⟩ : Addr).add i = ⟨b, off + i, none⟩ := by
  unfold Addr.add
  split
  · next h => subst h; rfl
  · rfl
end Go.Proofs.YtbgmkplpolgebaaGreatDoor
