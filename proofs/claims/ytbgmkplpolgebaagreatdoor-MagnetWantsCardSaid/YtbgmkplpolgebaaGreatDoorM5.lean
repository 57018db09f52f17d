/-
  Several texts in one, in their build order. Lists of runs in memory; the bits of a byte, one behind the other; the iterator over a field's bits. Conditions as told. The iterator over a field's bits (package bits), whatever the loop's rounds do that leave the field alone. Conditions: as they stand. A region that draws its order, in a function that holds a range over a function: none of its operations panics; then what is asked behind a panic need not be told. Over any program. No condition but those of the lemmas.
-/
import Derived.Test.YtbgmkplpolgebaaGreatDoorM2
import Derived.Test.YtbgmkplpolgebaaGreatDoorM3
import Derived.Test.YtbgmkplpolgebaaGreatDoorM4
import Derived.Maps.AppendAt
namespace Go.Proofs.YtbgmkplpolgebaaGreatDoor
set_option linter.unusedSimpArgs false
set_option linter.unusedVariables false
open Go.RowKit Go.Shelf
attribute [local go_sem] Oper.semAt_some

def runCells (s : Int × Int) : List Value := [.int .i64 s.1, .int .i64 s.2]
def runRow (U : List (Int × Int)) : List Value := U.flatMap runCells
theorem runRow_app (U V : List (Int × Int)) : runRow (U ++ V) = runRow U ++ runRow V := by unfold runRow; rw [List.flatMap_append]
theorem runRow_len (U : List (Int × Int)) : (runRow U).length = U.length * 2 := by
  induction U with
  | nil => rfl
  | cons x U ih => show (runCells x ++ runRow U).length = _; rw [List.length_append, ih]; simp [runCells]; omega
theorem runRow_at {U : List (Int × Int)} {i j : Nat} {s : Int × Int} (h : U[i]? = some s) (hj : j < 2) : (runRow U)[i * 2 + j]? = (runCells s)[j]? := by
  have hi := (List.getElem?_eq_some_iff.1 h).1
  have hsp : U = U.take i ++ s :: U.drop (i + 1) := by
    have e : U[i] = s := (List.getElem?_eq_some_iff.1 h).2
    rw [← e, List.getElem_cons_drop, List.take_append_drop]
  rw [hsp, runRow_app, List.getElem?_append_right (by rw [runRow_len, List.length_take]; omega), runRow_len, List.length_take, show i * 2 + j - min i U.length * 2 = j by omega]
  show (runCells s ++ runRow _)[j]? = _
  rw [List.getElem?_append_left (by simp [runCells]; omega)]
theorem addrN (b off i : Nat) : (⟨b, off, none⟩ : Addr).add i = ⟨b, off + i, none⟩ := by
  unfold Addr.add
  split
  · next h => subst h; rfl
  · rfl
def OwnR (w : World) (base : Nat) (v : Value) (U : List (Int × Int)) : Prop := w.ownsRow base 66 2 v U.length (runRow U)
/-- The slice v holds the runs U. -/
def RunsAt (w : World) (v : Value) (U : List (Int × Int)) : Prop :=
  ∃ a c, v = .slice a U.length c ∧ U.length ≤ c ∧ c ≤ maxLen ∧ (U = [] ∨ ∃ g o, a = some ⟨g, o, none⟩ ∧ g < w.heap.size ∧ ∀ (i : Nat) (hi : i < U.length), w.cell? ⟨g, o + i * 2, none⟩ = some (.int .i64 U[i].1) ∧ w.cell? ⟨g, o + i * 2 + 1, none⟩ = some (.int .i64 U[i].2))
theorem RunsAt.new {w w' : World} {v : Value} {U : List (Int × Int)} (h : RunsAt w v U) (hn : New w w') : RunsAt w' v U := by
  obtain ⟨a, c, e, h1, h2, h3⟩ := h
  refine ⟨a, c, e, h1, h2, ?_⟩
  rcases h3 with h3 | ⟨g, o, e2, hg, hc⟩
  · exact .inl h3
  · exact .inr ⟨g, o, e2, Nat.lt_of_lt_of_le hg hn.size, fun i hi => ⟨New.cellv hn (hc i hi).1, New.cellv hn (hc i hi).2⟩⟩
theorem OwnR.runs {w : World} {base : Nat} {v : Value} {U : List (Int × Int)} (h : OwnR w base v U) : RunsAt w v U := by
  have h0 := h
  rcases h.2 with ⟨rfl, hn⟩ | ⟨g, cap, cur, rfl, hbg, hg, hnc, hcm, hcs, htake⟩
  · have : U = [] := List.eq_nil_of_length_eq_zero hn
    subst this
    exact ⟨none, 0, rfl, by simp, by simp [maxLen], .inl rfl⟩
  · refine ⟨_, cap, rfl, hnc, hcm, .inr ⟨g, 0, rfl, (Array.getElem?_eq_some_iff.1 hg).1, fun i hi => ?_⟩⟩
    have hc : ∀ j u, j < 2 → (runCells U[i])[j]? = some u → w.cell? ⟨g, i * 2 + j, none⟩ = some u := by
      intro j u hj hu
      have h1 := World.ownsRow.cells (g := g) h0 rfl (i * 2 + j) u (by rw [runRow_at (List.getElem?_eq_getElem hi) hj]; exact hu)
      rw [addrN] at h1
      simpa using h1
    simp only [Nat.zero_add]
    exact ⟨hc 0 _ (by omega) rfl, hc 1 _ (by omega) rfl⟩
theorem OwnR.base {w : World} {base base' : Nat} {v : Value} {U : List (Int × Int)} (h : OwnR w base v U) (hb : base' ≤ base) : OwnR w base' v U := by
  refine ⟨h.1, ?_⟩
  rcases h.2 with h1 | ⟨g, cap, cur, e, hbg, rest⟩
  · exact .inl h1
  · exact .inr ⟨g, cap, cur, e, Nat.le_trans hb hbg, rest⟩
theorem info_runB : (Tryz.prog.info? 66).map (fun i => (i.zero, i.size, i.bytes)) = some (some (.agg #[.int .i64 0, .int .i64 0]), 2, 16) := by kernel_rfl
theorem OwnR.nil (w : World) (base : Nat) : OwnR w base (.slice none 0 0) [] := World.ownsRow_nil _ _ _ _
theorem OwnR.mod {S : Nat → Prop} {w w' : World} {base : Nat} {v : Value} {U : List (Int × Int)} (h : OwnR w base v U) (n : Mod S w w') (hs : ∀ k, base ≤ k → k < w.heap.size → ¬ S k) : OwnR w' base v U := by
  refine ⟨h.1, ?_⟩
  rcases h.2 with h1 | ⟨g, cap, cur, rfl, hbg, hg, r⟩
  · exact .inl h1
  · have hlt := (Array.getElem?_eq_some_iff.1 hg).1
    exact .inr ⟨g, cap, cur, rfl, hbg, (n.block g hlt (hs g hbg hlt)).trans hg, r⟩
theorem OwnR.new {w w' : World} {base : Nat} {v : Value} {U : List (Int × Int)} (h : OwnR w base v U) (n : New w w') : OwnR w' base v U := h.mod n (fun _ _ _ x => x)
theorem OwnR.at' {w : World} {base : Nat} {v : Value} {U : List (Int × Int)} (h : OwnR w base v U) (hU : 0 < U.length) : ∃ g cap, v = .slice (some ⟨g, 0, none⟩) U.length cap ∧ base ≤ g ∧ g < w.heap.size ∧ (∃ cs, Blk w g cs 66) ∧ (∀ i, w.frozen? ⟨g, i, none⟩ = false) ∧ U.length ≤ cap ∧ cap ≤ maxLen ∧ ∀ (i : Nat) (hi : i < U.length), w.cell? ⟨g, i * 2, none⟩ = some (.int .i64 U[i].1) ∧ w.cell? ⟨g, i * 2 + 1, none⟩ = some (.int .i64 U[i].2) := by
  have h0 := h
  rcases h.2 with ⟨rfl, hn⟩ | ⟨g, cap, cur, rfl, hbg, hg, hnc, hcm, hcs, htake⟩
  · omega
  · refine ⟨g, cap, rfl, hbg, (Array.getElem?_eq_some_iff.1 hg).1, ⟨cur, hg⟩, fun i => by simp [World.frozen?, hg], hnc, hcm, fun i hi => ?_⟩
    have hc : ∀ j u, j < 2 → (runCells U[i])[j]? = some u → w.cell? ⟨g, i * 2 + j, none⟩ = some u := by
      intro j u hj hu
      have h1 := World.ownsRow.cells (g := g) h0 rfl (i * 2 + j) u (by rw [runRow_at (List.getElem?_eq_getElem hi) hj]; exact hu)
      rw [addrN] at h1
      simpa using h1
    exact ⟨hc 0 _ (by omega) rfl, hc 1 _ (by omega) rfl⟩
theorem runRow_put (A : List (Int × Int)) (r : Int × Int) (x : Int) : (runRow (A ++ [r])).set (A.length * 2 + 1) (.int .i64 x) = runRow (A ++ [(r.1, x)]) := by
  rw [runRow_app, runRow_app, List.set_append_right _ _ (by rw [runRow_len]; omega), runRow_len, show A.length * 2 + 1 - A.length * 2 = 1 by omega]
  rfl
theorem OwnR.put {w : World} {base g cap n : Nat} {A : List (Int × Int)} {r : Int × Int} (h : OwnR w base (.slice (some ⟨g, 0, none⟩) n cap) (A ++ [r])) (x : Int) :
    OwnR (w.setCell ⟨g, A.length * 2 + 1, none⟩ (.int .i64 x)) base (.slice (some ⟨g, 0, none⟩) n cap) (A ++ [(r.1, x)]) := by
  rcases h.2 with ⟨q, -⟩ | ⟨g', cap', cur, q, hbg, hg, hnc, hcm, hcs, htake⟩
  · cases q
  · injection q with q1 q2 q3
    injection q1 with q1
    injection q1 with q1
    subst q1 q2 q3
    have hb : Blk w g cur 66 := hg
    have hs := hb.set (A.length * 2 + 1) (.int .i64 x)
    refine ⟨?_, .inr ⟨g, cap, cur.setIfInBounds (A.length * 2 + 1) (.int .i64 x), ?_, hbg, hs, ?_, hcm, by simpa using hcs, ?_⟩⟩
    · have := h.1
      simp only [List.length_append, List.length_singleton, runRow_len] at this ⊢
    · simp
    · simpa using hnc
    · rw [← runRow_put, Array.toList_setIfInBounds, ← htake, show (A ++ [(r.1, x)]).length * 2 = (A ++ [r]).length * 2 by simp]
      exact list_take_set _ _ _ _ (by simp; omega)
/-! ### the bits of a byte -/
def setBits (b : UInt8) : List Nat := (List.range 8).filter (bitB b)
theorem setBits_zero : setBits 0 = [] := by decide +kernel
theorem setBits_step (b : UInt8) (h : b ≠ 0) : ∃ i : Nat, (8 - (Lib.bitLen (b.toNat : Int).toNat : Int)) = (i : Int) ∧ i < 8 ∧ setBits b = i :: setBits (setB b i false) := by
  have key : ∀ n : Nat, n < 256 → n ≠ 0 → Lib.bitLen n ≤ 8 ∧ 8 - Lib.bitLen n < 8 ∧ setBits (UInt8.ofNat n) = (8 - Lib.bitLen n) :: setBits (setB (UInt8.ofNat n) (8 - Lib.bitLen n) false) := by decide +kernel
  have hn : b.toNat ≠ 0 := fun q => h (UInt8.toNat_inj.1 q)
  obtain ⟨k1, k2, k3⟩ := key b.toNat b.toNat_lt hn
  rw [UInt8.ofNat_toNat] at k3
  exact ⟨8 - Lib.bitLen b.toNat, by rw [Int.toNat_natCast]; omega, k2, k3⟩
theorem numsL_more (a : Nat) (s : List UInt8) : ∀ m, numsL (a + m) s = numsL a s ++ ((List.range m).filter (fun j => bitL s (a + j))).map (a + ·)
  | 0 => by simp
  | m + 1 => by
    rw [show a + (m + 1) = (a + m) + 1 by omega, numsL_succ, numsL_more a s m, List.range_succ, List.filter_append, List.map_append, List.append_assoc]
    congr 1
    congr 1
    cases h : bitL s (a + m) <;> simp [h]
theorem numsL_byte (s : List UInt8) (k : Nat) (hk : k < s.length) : numsL (8 * (k + 1)) s = numsL (8 * k) s ++ (setBits s[k]).map (8 * k + ·) := by
  rw [show 8 * (k + 1) = 8 * k + 8 by omega, numsL_more]
  congr 1
  unfold setBits
  congr 1
  apply List.filter_congr
  intro j hj
  have hj8 : j < 8 := by simpa using hj
  unfold bitL
  rw [show (8 * k + j) / 8 = k by omega, show (8 * k + j) % 8 = j by omega, List.getD_eq_getElem?_getD, List.getElem?_eq_getElem hk]
  rfl
theorem numsL_all {n : Nat} {s : List UInt8} (h : FieldOf n s) : numsL (8 * s.length) s = numsL n s := by
  have hl := h.len
  rw [show 8 * s.length = n + (8 * s.length - n) by omega, numsL_more]
  have : (List.range (8 * s.length - n)).filter (fun j => bitL s (n + j)) = [] := by
    rw [List.filter_eq_nil_iff]
    intro j _
    rw [h.rest (n + j) (by omega)]
    decide
  rw [this]
  simp
end Go.Proofs.YtbgmkplpolgebaaGreatDoor

namespace Go.Proofs.YtbgmkplpolgebaaGreatDoor
set_option linter.unusedSimpArgs false
set_option linter.unusedVariables false
open Go.RowKit Go.Shelf
attribute [local go_sem] Oper.semAt_some

theorem numsL_le (n : Nat) (s : List UInt8) : (numsL n s).length ≤ n := by
  unfold numsL
  have := List.length_filter_le (fun i => bitL s i) (List.range n)
  simpa using this
set_option maxRecDepth 100000 in
set_option maxHeartbeats 4000000 in
theorem all_iter (s : List UInt8) (n : Int) (c B fb lp m : Nat) (hm : 1 ≤ m) (Inv : List Nat → World → Prop)
    (hI : ∀ T W, Inv T W → Blk W fb #[.int .i64 n, .slice (some ⟨B, 0, none⟩) s.length c] 120 ∧ ByAt W B s)
    (hY : ∀ T i W, Inv T W → i < 8 * s.length → T.length < 8 * s.length → YieldAt Fence.wide (m - 1) Tryz.prog lp #[.int .i64 i] W fun e W' => e = .returned (.bool true) ∧ Inv (T ++ [i]) W')
    (W : World) (h0 : Inv [] W) (hs : s.length ≤ 600) :
    CallsIn Fence.wide m Tryz.prog 148 #[.func (.yield lp) #[] #[], .pointer (some ⟨fb, 0, none⟩)] W fun e W' => (∃ v, e = .returned v) ∧ Inv (numsL (8 * s.length) s) W' := by
  refine callsIn_of_wp Tryz.func148 rfl trivial ?_ rfl
  simp only [Tryz.ntmps148, List.size_toArray, List.length_cons, List.length_nil, Nat.reduceAdd, Nat.reduceSub, Array.replicate_succ, Array.replicate_zero, List.push_toArray, List.append_toArray, List.nil_append, List.cons_append]
  have HI := hid hI; have HY := hid hY; have H0 := hid h0
  obtain ⟨b0, hby⟩ := hI _ _ h0
  have c1 := b0.cellv 1 rfl; have cl := b0.lt
  clear hI hY h0 b0 hby
  gi_wp2
  gi_loopw [9] (fun i wr => ∃ (k : Nat), i = .int .i64 k ∧ k ≤ s.length ∧ Inv (numsL (8 * k) s) wr) (fun i _ => s.length - (intOf i).toNat)
  case atStart => exact ⟨0, rfl, by omega, by simpa [numsL] using H0.out⟩
  case round =>
    obtain ⟨k, rfl, hk, hinv⟩ := hrel
    have HV := hid hinv
    obtain ⟨b1, hby⟩ := HI.out _ _ hinv
    clear hinv b1 c1 cl H0
    by_cases hlt : k < s.length
    · have hltI : (k : Int) < (s.length : Int) := by omega
      have g0 := hby.cell hlt
      have gl := hby.lt
      have HNB := hid (numsL_byte s k hlt)
      obtain ⟨x, hx⟩ : ∃ x, x = s[k] := ⟨_, rfl⟩
      rw [← hx] at g0 HNB
      clear hx hby
      gi_wp2
      gi_loopw [4] (fun v wx => ∃ (y : UInt8) (T : List Nat), v = .int .u8 (y.toNat : Int) ∧ T ++ (setBits y).map (8 * k + ·) = numsL (8 * (k + 1)) s ∧ Inv T wx) (fun v _ => (setBits (UInt8.ofNat (intOf v).toNat)).length)
      case atStart => exact ⟨x, _, rfl, HNB.out.symm, HV.out⟩
      case round =>
        clear HV HNB g0 gl
        obtain ⟨y, T, rfl, hT, hv⟩ := hrel
        have HT := hid hT; have HV := hid hv
        clear hT hv
        by_cases hy : y = 0
        · subst hy
          have e0 : (((0 : UInt8).toNat : Int) != 0) = false := by rfl
          rw [setBits_zero] at HT
          gi_wp2
          exact ⟨⟨k + 1, by simp, by omega, by have h := HT.out; simp at h; rw [← h]; exact HV.out⟩, by simp [intOf]; omega⟩
        · obtain ⟨i, hi, hi8, hst⟩ := setBits_step y hy
          have e0 : ((y.toNat : Int) != 0) = true := by
            rw [bne_iff_ne]
            intro q
            exact hy (UInt8.toNat_inj.1 (by show _ = 0; omega))
          have hnm := not_mask y hi8
          have hyl := y.toNat_lt
          have HLZ := hid (fun W => Tryz.bits_LeadingZeros8 (y.toNat : Int) W (by omega) (by omega))
          rw [hi] at HLZ
          have HST := hid hst
          obtain ⟨z, hz⟩ : ∃ z, z = setB y i false := ⟨_, rfl⟩
          rw [← hz] at hnm HST
          clear hst hz hi hy
          have hYY := HY.out T (8 * k + i) wr HV.out (by omega) (by
            have h1 := congrArg List.length HT.out
            have h2 := numsL_le (8 * (k + 1)) s
            rw [HST.out] at h1
            simp at h1
            omega)
          rw [show ((8 * k + i : Nat) : Int) = 8 * (k : Int) + (i : Int) by omega] at hYY
          obtain ⟨fn, tmps, assign, body, hyy, hR⟩ := hYY
          have HR := hid hR
          clear hR
          gi_wp2_with fail
          refine ⟨trivial, (callsIn_wide.2 (HLZ.out _)).mono ?_⟩
          rintro e w1 ⟨rfl, rfl⟩
          gi_wp2_with fail
          refine HR.out.mono ?_
          rintro e W2 ⟨rfl, hi2⟩
          have HI2 := hid hi2
          clear hi2
          gi_wp2
          refine ⟨⟨z, T ++ [8 * k + i], rfl, by rw [← HT.out, HST.out]; simp, HI2.out⟩, ?_⟩
          simp only [intOf, Int.toNat_natCast, UInt8.ofNat_toNat]
          rw [HST.out]
          simp
    · obtain rfl : k = s.length := by omega
      clear hby
      gi_wp2
      go_end0
      exact ⟨⟨_, rfl⟩, HV.out⟩
end Go.Proofs.YtbgmkplpolgebaaGreatDoor

namespace Go.Proofs.YtbgmkplpolgebaaGreatDoor
set_option linter.unusedSimpArgs false
set_option linter.unusedVariables false
open Go.RowKit

/-- Nothing but the normal end. -/
def noPanic (Q : Exit → Act → World → Prop) : Exit → Act → World → Prop
  | .normal, a, w => Q .normal a w
  | _, _, _ => False
theorem noPanic_ok {Q : Exit → Act → World → Prop} {a : Act} {w : World} (h : Q .normal a w) : noPanic Q .normal a w := h
end Go.Proofs.YtbgmkplpolgebaaGreatDoor
