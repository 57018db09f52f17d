/-
  Several texts in one, in their build order. The reference's bits: truths, numbers, the list of bits. Conditions: the field is right; at most 4096 bits. The iterator over a field's bits (package bits), whatever the loop's rounds do that leave the field alone. Conditions: as they stand. A region that draws its order, in a function that holds a range over a function: none of its operations panics; then what is asked behind a panic need not be told. Over any program. No condition but those of the lemmas.
-/
import Derived.Test.YtbgmkplpolgebaaGreatDoorM18
import Derived.Test.YtbgmkplpolgebaaGreatDoorM16
namespace Go.Proofs.YtbgmkplpolgebaaGreatDoor
set_option linter.unusedSimpArgs false
set_option linter.unusedVariables false
open Go.RowKit Go.Shelf

theorem info_boolB : (Tryz.prog.info? 4).map (fun i => (i.zero, i.size, i.bytes)) = some (some (.bool false), 1, 1) := by kernel_rfl
theorem info_intB : (Tryz.prog.info? 3).map (fun i => (i.zero, i.size, i.bytes)) = some (some (.int .i64 0), 1, 8) := by kernel_rfl
/-- A row of cells of one each, of the call's own. -/
def OwnC (w : World) (t : TypeId) (base : Nat) (v : Value) (l : List Value) : Prop := w.ownsRow base t 1 v l.length l
theorem OwnC.nil (w : World) (t : TypeId) (base : Nat) : OwnC w t base (.slice none 0 0) [] := World.ownsRow_nil _ _ _ _
theorem OwnC.mod {S : Nat → Prop} {w w' : World} {t : TypeId} {base : Nat} {v : Value} {l : List Value} (h : OwnC w t base v l) (n : Mod S w w') (hs : ∀ k, base ≤ k → k < w.heap.size → ¬ S k) : OwnC w' t base v l := by
  refine ⟨h.1, ?_⟩
  rcases h.2 with h1 | ⟨g, cap, cur, rfl, hbg, hg, r⟩
  · exact .inl h1
  · have hlt := (Array.getElem?_eq_some_iff.1 hg).1
    exact .inr ⟨g, cap, cur, rfl, hbg, (n.block g hlt (hs g hbg hlt)).trans hg, r⟩
theorem OwnC.new {w w' : World} {t : TypeId} {base : Nat} {v : Value} {l : List Value} (h : OwnC w t base v l) (n : New w w') : OwnC w' t base v l := h.mod n (fun _ _ _ x => x)
theorem OwnC.form {w : World} {t : TypeId} {base : Nat} {v : Value} {l : List Value} (h : OwnC w t base v l) : ∃ a c, v = .slice a l.length c ∧ (∀ g, v.ownBlock = some g → base ≤ g) ∧ l.length ≤ c ∧ c ≤ maxLen ∧ (l = [] ∨ ∃ g, a = some ⟨g, 0, none⟩ ∧ g < w.heap.size ∧ base ≤ g ∧ (∃ cs, Blk w g cs t) ∧ ∀ (i : Nat) (hi : i < l.length), w.cell? ⟨g, i, none⟩ = some l[i]) := by
  have h0 := h
  rcases h.2 with ⟨rfl, hn⟩ | ⟨g, cap, cur, rfl, hbg, hg, hnc, hcm, hcs, htake⟩
  · exact ⟨none, 0, by rw [hn], (fun g q => by cases q), by omega, by unfold maxLen; omega, .inl (List.eq_nil_of_length_eq_zero hn)⟩
  · refine ⟨_, cap, rfl, (fun g' q => by
      have : g = g' := by simpa [Value.ownBlock] using q
      omega), hnc, hcm, .inr ⟨g, rfl, (Array.getElem?_eq_some_iff.1 hg).1, hbg, ⟨cur, hg⟩, fun i hi => ?_⟩⟩
    have h1 := World.ownsRow.cells (g := g) h0 rfl i l[i] (List.getElem?_eq_getElem hi)
    rw [addrN, Nat.zero_add] at h1
    exact h1
theorem OwnC.base' {w : World} {t : TypeId} {base base' : Nat} {v : Value} {l : List Value} (h : OwnC w t base v l) (hb : base' ≤ base) : OwnC w t base' v l := by
  refine ⟨h.1, ?_⟩
  rcases h.2 with h1 | ⟨g, cap, cur, e, hbg, rest⟩
  · exact .inl h1
  · exact .inr ⟨g, cap, cur, e, Nat.le_trans hb hbg, rest⟩
theorem one_newC (w : World) (x : Value) (t : TypeId) {b : Nat} (hb : b = w.heap.size) : ∀ (j : Nat) (u : Value), [x][j]? = some u → (w.alloc (.cells #[x] t)).cell? ((⟨b, 0, none⟩ : Addr).add j) = some u := by
  intro j u hj
  rw [addrN]
  match j, hj with
  | 0, hj => simp at hj; subst hj; exact (Blk.newAt hb).cellv 0 rfl
theorem numsL_leB (n : Nat) (s : List UInt8) : (numsL n s).length ≤ n := by
  unfold numsL
  have := List.length_filter_le (fun i => bitL s i) (List.range n)
  simpa using this
def bitV (s : List UInt8) (n : Nat) : List Value := (List.range n).map (fun i => Value.bool (bitL s i))
theorem bitV_succ (s : List UInt8) (n : Nat) : bitV s (n + 1) = bitV s n ++ [.bool (bitL s n)] := by unfold bitV; rw [List.range_succ, List.map_append]; rfl
theorem bitV_len (s : List UInt8) (n : Nat) : (bitV s n).length = n := by unfold bitV; simp
def numV (N : List Nat) : List Value := N.map (fun (i : Nat) => Value.int .i64 (i : Int))
set_option maxRecDepth 100000 in
set_option maxHeartbeats 4000000 in
theorem rtruths_any (n : Nat) (s : ByteArray) (w : World) (h : FieldOf n s.data.toList) (hn : n ≤ 4096) : Calls Tryz.prog 108 #[.int .i64 n, .string s] w fun e w' => ∃ v, e = .returned v ∧ OwnC w' 4 w.heap.size v (bitV s.data.toList n) ∧ New w w' := by
  have hlen : s.data.toList.length = s.size := by rw [Array.length_toList]; rfl
  have hl := h.len
  rw [hlen] at hl
  have HAT := hid (fun (i : Nat) (q : i < n) W => rat_any s i W (by omega) (by omega))
  obtain ⟨i0, hi, hz0, hz1, hz2⟩ := info_parts info_boolB
  obtain ⟨B, hB⟩ : ∃ B, B = s.data.toList := ⟨_, rfl⟩
  rw [← hB] at HAT ⊢
  clear hl h hlen hB
  go_enter Tryz.func108, Tryz.ntmps108
  go_wp2
  go_loopw [8, 5] (fun i o wr => ∃ (k : Nat) (v : Value), i = .int .i64 k ∧ v = o ∧ k ≤ n ∧ OwnC wr 4 w.heap.size v (bitV B k) ∧ New w wr) (fun i _ _ => n - (intOf i).toNat)
  case atStart => exact ⟨0, _, rfl, rfl, by omega, OwnC.nil _ _ _, Mod.refl _ _⟩
  case round =>
    obtain ⟨k, v, rfl, rfl, hk, hO, hN⟩ := hrel
    have HO := hid hO; have HN := hid hN
    have hkl := bitV_len B k
    clear hO hN
    by_cases hlt : k < n
    · have hltI : (k : Int) < (n : Int) := by omega
      have HAK := hid (fun W => HAT.out k hlt W)
      have HBS := hid (bitV_succ B k)
      have HKL := hid hkl
      obtain ⟨L, hL⟩ : ∃ L, L = bitV B k := ⟨_, rfl⟩
      obtain ⟨X, hX⟩ : ∃ X, X = bitL B k := ⟨_, rfl⟩
      rw [← hL] at HO HKL hkl HBS
      rw [← hX] at HAK HBS
      clear hL hX
      go_wp2_with fail
      refine (HAK.out _).mono ?_
      rintro e w5 ⟨rfl, rfl⟩
      go_wp2_with (first | (at_builtin; refine wpList_append_own_at _ rfl _ _ 129 rfl w.heap.size 4 i0 _ 1 1 Tryz.underlying129 hi hz0 hz1 hz2 rfl (by decide) v L.length L rfl ?ow ⟨wr.heap.size, 0, none⟩ 1 1 [.bool X] rfl rfl ?hn ?h1 ?h63 ?hby ?hba ?_) | fail)
      case ow => exact HO.out.new ((Mod.refl _ _).alloc _)
      case hn => exact fun j u hj => one_newC wr _ _ rfl j u hj
      case h1 => intro u hu; simp at hu; subst hu; rfl
      case h63 => unfold maxLen; omega
      case hby => omega
      case hba => have := HN.out.size; simp; omega
      intro o6 w6 r6 g6 _ _
      have O6 : Hid (OwnC w6 4 w.heap.size o6 (L ++ [.bool X])) := hid (by
        unfold OwnC
        rw [List.length_append, hkl]
        exact r6)
      have N6 : Hid (New w w6) := hid (newGrown (HN.out.alloc _) g6 (fun j hj => by
        obtain ⟨_, _, -, hb, -⟩ := HO.out.form
        exact hb j hj))
      clear r6 g6
      go_wp2
      exact ⟨⟨k + 1, _, by simp, rfl, by omega, by rw [HBS.out]; exact O6.out, N6.out⟩, by simp [intOf]; omega⟩
    · obtain rfl : k = n := by omega
      clear hkl
      go_wp2
      go_ret
      exact ⟨_, rfl, HO.out, HN.out⟩
set_option maxRecDepth 100000 in
set_option maxHeartbeats 4000000 in
theorem rnumbers_any (n : Nat) (B : List UInt8) (vb : Value) (base : Nat) (w : World) (hn : n ≤ 4096) (h : OwnC w 4 base vb (bitV B n)) : Calls Tryz.prog 152 #[vb] w fun e w' => ∃ v, e = .returned v ∧ OwnC w' 3 w.heap.size v (numV (numsL n B)) ∧ New w w' := by
  obtain ⟨a, c, rfl, -, hc1, hc2, hat⟩ := h.form
  have hbl := bitV_len B n
  have HAT : Hid (n = 0 ∨ ∃ g, a = some ⟨g, 0, none⟩ ∧ ∀ (i : Nat), i < n → w.cell? ⟨g, i, none⟩ = some (.bool (bitL B i))) := hid (by
    rcases hat with q | ⟨g, q1, -, -, -, q2⟩
    · rw [q] at hbl
      exact .inl (by simpa using hbl.symm)
    · refine .inr ⟨g, q1, fun i hi => ?_⟩
      rw [q2 i (by rw [hbl]; exact hi)]
      unfold bitV
      simp)
  rw [hbl] at hc1 ⊢
  unfold maxLen at hc2
  obtain ⟨i0, hi, hz0, hz1, hz2⟩ := info_parts info_intB
  have HLE := hid (fun k => numsL_leB k B)
  clear h hat hbl
  go_enter Tryz.func152, Tryz.ntmps152
  go_wp2
  go_loopw [8, 3] (fun i o wr => ∃ (k : Nat) (v : Value), i = .int .i64 k ∧ v = o ∧ k ≤ n ∧ OwnC wr 3 w.heap.size v (numV (numsL k B)) ∧ New w wr) (fun i _ _ => n - (intOf i).toNat)
  case atStart => exact ⟨0, _, rfl, rfl, by omega, OwnC.nil _ _ _, Mod.refl _ _⟩
  case round =>
    obtain ⟨k, v, rfl, rfl, hk, hO, hN⟩ := hrel
    have HO := hid hO; have HN := hid hN
    clear hO hN
    by_cases hlt : k < n
    · have hltI : (k : Int) < (n : Int) := by omega
      rcases HAT.out with hnil | ⟨g, rfl, hcc⟩
      · omega
      · have g0 := New.cellv HN.out (hcc k hlt)
        have hsc := numsL_succ k B
        have hle := HLE.out k
        cases hb : bitL B k with
        | true =>
          rw [hb] at g0 hsc
          rw [if_pos rfl] at hsc
          have HSC := hid (show numV (numsL (k + 1) B) = numV (numsL k B) ++ [.int .i64 (k : Int)] by rw [hsc]; unfold numV; rw [List.map_append]; rfl)
          have hLl : (numV (numsL k B)).length ≤ 4096 := by unfold numV; rw [List.length_map]; omega
          obtain ⟨L, hL⟩ : ∃ L, L = numV (numsL k B) := ⟨_, rfl⟩
          rw [← hL] at HO HSC hLl
          clear hL hb hsc hcc
          go_wp2_with (first | (at_builtin; refine wpList_append_own_at _ rfl _ _ 35 rfl w.heap.size 3 i0 _ 1 8 Tryz.underlying35 hi hz0 hz1 hz2 rfl (by decide) v L.length L rfl ?ow ⟨wr.heap.size, 0, none⟩ 1 1 [.int .i64 (k : Int)] rfl rfl ?hn ?h1 ?h63 ?hby ?hba ?_) | fail)
          case ow => exact HO.out.new ((Mod.refl _ _).alloc _)
          case hn => exact fun j u hj => one_newC wr _ _ rfl j u hj
          case h1 => intro u hu; simp at hu; subst hu; rfl
          case h63 => unfold maxLen; omega
          case hby => omega
          case hba => have := HN.out.size; simp; omega
          intro o6 w6 r6 g6 _ _
          have O6 : Hid (OwnC w6 3 w.heap.size o6 (L ++ [.int .i64 (k : Int)])) := hid (by
            unfold OwnC
            rw [List.length_append]
            exact r6)
          have N6 : Hid (New w w6) := hid (newGrown (HN.out.alloc _) g6 (fun j hj => by
            obtain ⟨_, _, -, hb, -⟩ := HO.out.form
            exact hb j hj))
          clear r6 g6
          go_wp2
          exact ⟨⟨k + 1, _, by simp, rfl, by omega, by rw [HSC.out]; exact O6.out, N6.out⟩, by simp [intOf]; omega⟩
        | false =>
          rw [hb] at g0 hsc
          rw [if_neg (by decide), List.append_nil] at hsc
          have HSC := hid hsc
          clear hb hsc hcc
          go_wp2
          exact ⟨⟨k + 1, _, by simp, rfl, by omega, by rw [HSC.out]; exact HO.out, HN.out⟩, by simp [intOf]; omega⟩
    · obtain rfl : k = n := by omega
      go_wp2
      go_ret
      exact ⟨_, rfl, HO.out, HN.out⟩
set_option maxRecDepth 100000 in
set_option maxHeartbeats 4000000 in
theorem rlist_any (n : Nat) (s : ByteArray) (w : World) (h : FieldOf n s.data.toList) (hn : n ≤ 4096) : Calls Tryz.prog 109 #[.int .i64 n, .string s] w fun e w' => ∃ v, e = .returned (.tuple #[v, .int .i64 0]) ∧ OwnC w' 3 w.heap.size v (numV (numsL n s.data.toList)) ∧ New w w' := by
  have HC := hid (fun W => rcheck_ok n s W h hn)
  have HT := hid (fun W => rtruths_any n s W h hn)
  have HNU := hid (fun vb base W q => rnumbers_any n s.data.toList vb base W hn q)
  clear h
  go_enter Tryz.func109, Tryz.ntmps109
  go_wp2_with fail
  refine (HC.out _).mono ?_
  rintro e w1 ⟨rfl, rfl⟩
  go_wp2_with fail
  refine (HT.out _).mono ?_
  rintro e w2 ⟨v2, rfl, o2, n2⟩
  have O2 := hid o2
  have N2 := hid n2
  obtain ⟨a2, c2, hv2, -⟩ := o2.form
  have HNX := hid (fun W (q : OwnC W 4 w.heap.size v2 (bitV s.data.toList n)) => HNU.out v2 w.heap.size W q)
  clear o2 n2 hv2
  go_wp2_with fail
  refine (HNX.out _ O2.out).mono ?_
  rintro e w3 ⟨v3, rfl, o3, n3⟩
  have O3 := hid (o3.base' N2.out.size)
  have N3 := hid (N2.out.trans n3)
  clear o3 n3
  go_wp2
  go_ret2
  exact ⟨_, rfl, O3.out, N3.out⟩
end Go.Proofs.YtbgmkplpolgebaaGreatDoor

namespace Go.Proofs.YtbgmkplpolgebaaGreatDoor
set_option linter.unusedSimpArgs false
set_option linter.unusedVariables false
open Go.RowKit Go.Shelf
attribute [local go_sem] Oper.semAt_some

theorem numsL_le (n : Nat) (s : List UInt8) : (numsL n s).length ≤ n := by
  unfold numsL
  have := List.length_filter_le (fun i => bitL s i) (List.range n)
  simpa using this
set_option maxRecDepth 100000 in
set_option maxHeartbeats 4000000 in
theorem all_iter (s : List UInt8) (n : Int) (c B fb lp m : Nat) (hm : 1 ≤ m) (Inv : List Nat → World → Prop)
    (hI : ∀ T W, Inv T W → Blk W fb #[.int .i64 n, .slice (some ⟨B, 0, none⟩) s.length c] 120 ∧ ByAt W B s)
    (hY : ∀ T i W, Inv T W → i < 8 * s.length → T.length < 8 * s.length → YieldAt Fence.wide (m - 1) Tryz.prog lp #[.int .i64 i] W fun e W' => e = .returned (.bool true) ∧ Inv (T ++ [i]) W')
    (W : World) (h0 : Inv [] W) (hs : s.length ≤ 600) :
    CallsIn Fence.wide m Tryz.prog 148 #[.func (.yield lp) #[] #[], .pointer (some ⟨fb, 0, none⟩)] W fun e W' => (∃ v, e = .returned v) ∧ Inv (numsL (8 * s.length) s) W' := by
  refine callsIn_of_wp Tryz.func148 rfl trivial ?_ rfl
  simp only [Tryz.ntmps148, List.size_toArray, List.length_cons, List.length_nil, Nat.reduceAdd, Nat.reduceSub, Array.replicate_succ, Array.replicate_zero, List.push_toArray, List.append_toArray, List.nil_append, List.cons_append]
  have HI := hid hI; have HY := hid hY; have H0 := hid h0
  obtain ⟨b0, hby⟩ := hI _ _ h0
  have c1 := b0.cellv 1 rfl; have cl := b0.lt
  clear hI hY h0 b0 hby
  gi_wp2
  gi_loopw [9] (fun i wr => ∃ (k : Nat), i = .int .i64 k ∧ k ≤ s.length ∧ Inv (numsL (8 * k) s) wr) (fun i _ => s.length - (intOf i).toNat)
  case atStart => exact ⟨0, rfl, by omega, by simpa [numsL] using H0.out⟩
  case round =>
    obtain ⟨k, rfl, hk, hinv⟩ := hrel
    have HV := hid hinv
    obtain ⟨b1, hby⟩ := HI.out _ _ hinv
    clear hinv b1 c1 cl H0
    by_cases hlt : k < s.length
    · have hltI : (k : Int) < (s.length : Int) := by omega
      have g0 := hby.cell hlt
      have gl := hby.lt
      have HNB := hid (numsL_byte s k hlt)
      obtain ⟨x, hx⟩ : ∃ x, x = s[k] := ⟨_, rfl⟩
      rw [← hx] at g0 HNB
      clear hx hby
      gi_wp2
      gi_loopw [4] (fun v wx => ∃ (y : UInt8) (T : List Nat), v = .int .u8 (y.toNat : Int) ∧ T ++ (setBits y).map (8 * k + ·) = numsL (8 * (k + 1)) s ∧ Inv T wx) (fun v _ => (setBits (UInt8.ofNat (intOf v).toNat)).length)
      case atStart => exact ⟨x, _, rfl, HNB.out.symm, HV.out⟩
      case round =>
        clear HV HNB g0 gl
        obtain ⟨y, T, rfl, hT, hv⟩ := hrel
        have HT := hid hT; have HV := hid hv
        clear hT hv
        by_cases hy : y = 0
        · subst hy
          have e0 : (((0 : UInt8).toNat : Int) != 0) = false := by rfl
          rw [setBits_zero] at HT
          gi_wp2
          exact ⟨⟨k + 1, by simp, by omega, by have h := HT.out; simp at h; rw [← h]; exact HV.out⟩, by simp [intOf]; omega⟩
        · obtain ⟨i, hi, hi8, hst⟩ := setBits_step y hy
          have e0 : ((y.toNat : Int) != 0) = true := by
            rw [bne_iff_ne]
            intro q
            exact hy (UInt8.toNat_inj.1 (by show _ = 0; omega))
          have hnm := not_mask y hi8
          have hyl := y.toNat_lt
          have HLZ := hid (fun W => Tryz.bits_LeadingZeros8 (y.toNat : Int) W (by omega) (by omega))
          rw [hi] at HLZ
          have HST := hid hst
          obtain ⟨z, hz⟩ : ∃ z, z = setB y i false := ⟨_, rfl⟩
          rw [← hz] at hnm HST
          clear hst hz hi hy
          have hYY := HY.out T (8 * k + i) wr HV.out (by omega) (by
            have h1 := congrArg List.length HT.out
            have h2 := numsL_le (8 * (k + 1)) s
            rw [HST.out] at h1
            simp at h1
            omega)
          rw [show ((8 * k + i : Nat) : Int) = 8 * (k : Int) + (i : Int) by omega] at hYY
          obtain ⟨fn, tmps, assign, body, hyy, hR⟩ := hYY
          have HR := hid hR
          clear hR
          gi_wp2_with fail
          refine ⟨trivial, (callsIn_wide.2 (HLZ.out _)).mono ?_⟩
          rintro e w1 ⟨rfl, rfl⟩
          gi_wp2_with fail
          refine HR.out.mono ?_
          rintro e W2 ⟨rfl, hi2⟩
          have HI2 := hid hi2
          clear hi2
          gi_wp2
          refine ⟨⟨z, T ++ [8 * k + i], rfl, by rw [← HT.out, HST.out]; simp, HI2.out⟩, ?_⟩
          simp only [intOf, Int.toNat_natCast, UInt8.ofNat_toNat]
          rw [HST.out]
          simp
    · obtain rfl : k = s.length := by omega
      clear hby
      gi_wp2
      go_end0
      exact ⟨⟨_, rfl⟩, HV.out⟩
end Go.Proofs.YtbgmkplpolgebaaGreatDoor

namespace Go.Proofs.YtbgmkplpolgebaaGreatDoor
set_option linter.unusedSimpArgs false
set_option linter.unusedVariables false
open Go.RowKit

end Go.Proofs.YtbgmkplpolgebaaGreatDoor
