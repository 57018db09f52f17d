/-
  Several texts in one, in their build order. The reference's bits: truths, numbers, the list of bits. Conditions: the field is right; at most 4096 bits. The walk of List (package bits). Conditions: the field is right; at most 4096 bits. Messages of local discovery told in plain words: hexadecimal digits, lines that end with two bytes, what is written. Plain Lean, no program. No condition.
-/
import Derived.Test.YtbgmkplpolgebaaGreatDoorM7
import Derived.Test.YtbgmkplpolgebaaGreatDoorM6
import Derived.Test.YtbgmkplpolgebaaGreatDoorM1
import Derived.Lib.SplitLaws
import Derived.Lib.Split
import Derived.Lib.ItoaNum
namespace Go.Proofs.YtbgmkplpolgebaaGreatDoor
set_option linter.unusedSimpArgs false
set_option linter.unusedVariables false
open Go.RowKit Go.Shelf

theorem info_boolB : (Tryz.prog.info? 4).map (fun i => (i.zero, i.size, i.bytes)) = some (some (.bool false), 1, 1) := by kernel_rfl
theorem info_intB : (Tryz.prog.info? 3).map (fun i => (i.zero, i.size, i.bytes)) = some (some (.int .i64 0), 1, 8) := by kernel_rfl
/-- A row of cells of one each, of the call's own. -/
def OwnC (w : World) (t : TypeId) (base : Nat) (v : Value) (l : List Value) : Prop := w.ownsRow base t 1 v l.length l
theorem OwnC.nil (w : World) (t : TypeId) (base : Nat) : OwnC w t base (.slice none 0 0) [] := World.ownsRow_nil _ _ _ _
theorem OwnC.mod {S : Nat → Prop} {w w' : World} {t : TypeId} {base : Nat} {v : Value} {l : List Value} (h : OwnC w t base v l) (n : Mod S w w') (hs : ∀ k, base ≤ k → k < w.heap.size → ¬ S k) : OwnC w' t base v l := by
  refine ⟨h.1, ?_⟩
  rcases h.2 with h1 | ⟨g, cap, cur, rfl, hbg, hg, r⟩
  · exact .inl h1
  · have hlt := (Array.getElem?_eq_some_iff.1 hg).1
    exact .inr ⟨g, cap, cur, rfl, hbg, (n.block g hlt (hs g hbg hlt)).trans hg, r⟩
theorem OwnC.new {w w' : World} {t : TypeId} {base : Nat} {v : Value} {l : List Value} (h : OwnC w t base v l) (n : New w w') : OwnC w' t base v l := h.mod n (fun _ _ _ x => x)
theorem OwnC.form {w : World} {t : TypeId} {base : Nat} {v : Value} {l : List Value} (h : OwnC w t base v l) : ∃ a c, v = .slice a l.length c ∧ (∀ g, v.ownBlock = some g → base ≤ g) ∧ l.length ≤ c ∧ c ≤ maxLen ∧ (l = [] ∨ ∃ g, a = some ⟨g, 0, none⟩ ∧ g < w.heap.size ∧ base ≤ g ∧ (∃ cs, Blk w g cs t) ∧ ∀ (i : Nat) (hi : i < l.length), w.cell? ⟨g, i, none⟩ = some l[i]) := by
  have h0 := h
  rcases h.2 with ⟨rfl, hn⟩ | ⟨g, cap, cur, rfl, hbg, hg, hnc, hcm, hcs, htake⟩
  · exact ⟨none, 0, by rw [hn], (fun g q => by cases q), by omega, by unfold maxLen; omega, .inl (List.eq_nil_of_length_eq_zero hn)⟩
  · refine ⟨_, cap, rfl, (fun g' q => by
      have : g = g' := by simpa [Value.ownBlock] using q
      omega), hnc, hcm, .inr ⟨g, rfl, (Array.getElem?_eq_some_iff.1 hg).1, hbg, ⟨cur, hg⟩, fun i hi => ?_⟩⟩
    have h1 := World.ownsRow.cells (g := g) h0 rfl i l[i] (List.getElem?_eq_getElem hi)
    rw [addrN, Nat.zero_add] at h1
    exact h1
theorem OwnC.base' {w : World} {t : TypeId} {base base' : Nat} {v : Value} {l : List Value} (h : OwnC w t base v l) (hb : base' ≤ base) : OwnC w t base' v l := by
  refine ⟨h.1, ?_⟩
  rcases h.2 with h1 | ⟨g, cap, cur, e, hbg, rest⟩
  · exact .inl h1
  · exact .inr ⟨g, cap, cur, e, Nat.le_trans hb hbg, rest⟩
theorem one_newC (w : World) (x : Value) (t : TypeId) {b : Nat} (hb : b = w.heap.size) : ∀ (j : Nat) (u : Value), [x][j]? = some u → (w.alloc (.cells #[x] t)).cell? ((⟨b, 0, none⟩ : Addr).add j) = some u := by
  intro j u hj
  rw [addrN]
  match j, hj with
  | 0, hj => simp at hj; subst hj; exact (Blk.newAt hb).cellv 0 rfl
theorem numsL_leB (n : Nat) (s : List UInt8) : (numsL n s).length ≤ n := by
  unfold numsL
  have := List.length_filter_le (fun i => bitL s i) (List.range n)
  simpa using this
def bitV (s : List UInt8) (n : Nat) : List Value := (List.range n).map (fun i => Value.bool (bitL s i))
theorem bitV_succ (s : List UInt8) (n : Nat) : bitV s (n + 1) = bitV s n ++ [.bool (bitL s n)] := by unfold bitV; rw [List.range_succ, List.map_append]; rfl
theorem bitV_len (s : List UInt8) (n : Nat) : (bitV s n).length = n := by unfold bitV; simp
def numV (N : List Nat) : List Value := N.map (fun (i : Nat) => Value.int .i64 (i : Int))
set_option maxRecDepth 100000 in
set_option maxHeartbeats 4000000 in
theorem rtruths_any (n : Nat) (s : ByteArray) (w : World) (h : FieldOf n s.data.toList) (hn : n ≤ 4096) : Calls Tryz.prog 108 #[.int .i64 n, .string s] w fun e w' => ∃ v, e = .returned v ∧ OwnC w' 4 w.heap.size v (bitV s.data.toList n) ∧ New w w' := by
  have hlen : s.data.toList.length = s.size := by rw [Array.length_toList]; rfl
  have hl := h.len
  rw [hlen] at hl
  have HAT := hid (fun (i : Nat) (q : i < n) W => rat_any s i W (by omega) (by omega))
  obtain ⟨i0, hi, hz0, hz1, hz2⟩ := info_parts info_boolB
  obtain ⟨B, hB⟩ : ∃ B, B = s.data.toList := ⟨_, rfl⟩
  rw [← hB] at HAT ⊢
  clear hl h hlen hB
  go_enter Tryz.func108, Tryz.ntmps108
  go_wp2
  go_loopw [8, 5] (fun i o wr => ∃ (k : Nat) (v : Value), i = .int .i64 k ∧ v = o ∧ k ≤ n ∧ OwnC wr 4 w.heap.size v (bitV B k) ∧ New w wr) (fun i _ _ => n - (intOf i).toNat)
  case atStart => exact ⟨0, _, rfl, rfl, by omega, OwnC.nil _ _ _, Mod.refl _ _⟩
  case round =>
    obtain ⟨k, v, rfl, rfl, hk, hO, hN⟩ := hrel
    have HO := hid hO; have HN := hid hN
    have hkl := bitV_len B k
    clear hO hN
    by_cases hlt : k < n
    · have hltI : (k : Int) < (n : Int) := by omega
      have HAK := hid (fun W => HAT.out k hlt W)
      have HBS := hid (bitV_succ B k)
      have HKL := hid hkl
      obtain ⟨L, hL⟩ : ∃ L, L = bitV B k := ⟨_, rfl⟩
      obtain ⟨X, hX⟩ : ∃ X, X = bitL B k := ⟨_, rfl⟩
      rw [← hL] at HO HKL hkl HBS
      rw [← hX] at HAK HBS
      clear hL hX
      go_wp2_with fail
      refine (HAK.out _).mono ?_
      rintro e w5 ⟨rfl, rfl⟩
      go_wp2_with (first | (at_builtin; refine wpList_append_own_at _ rfl _ _ 129 rfl w.heap.size 4 i0 _ 1 1 Tryz.underlying129 hi hz0 hz1 hz2 rfl (by decide) v L.length L rfl ?ow ⟨wr.heap.size, 0, none⟩ 1 1 [.bool X] rfl rfl ?hn ?h1 ?h63 ?hby ?hba ?_) | fail)
      case ow => exact HO.out.new ((Mod.refl _ _).alloc _)
      case hn => exact fun j u hj => one_newC wr _ _ rfl j u hj
      case h1 => intro u hu; simp at hu; subst hu; rfl
      case h63 => unfold maxLen; omega
      case hby => omega
      case hba => have := HN.out.size; simp; omega
      intro o6 w6 r6 g6 _ _
      have O6 : Hid (OwnC w6 4 w.heap.size o6 (L ++ [.bool X])) := hid (by
        unfold OwnC
        rw [List.length_append, hkl]
        exact r6)
      have N6 : Hid (New w w6) := hid (newGrown (HN.out.alloc _) g6 (fun j hj => by
        obtain ⟨_, _, -, hb, -⟩ := HO.out.form
        exact hb j hj))
      clear r6 g6
      go_wp2
      exact ⟨⟨k + 1, _, by simp, rfl, by omega, by rw [HBS.out]; exact O6.out, N6.out⟩, by simp [intOf]; omega⟩
    · obtain rfl : k = n := by omega
      clear hkl
      go_wp2
      go_ret
      exact ⟨_, rfl, HO.out, HN.out⟩
set_option maxRecDepth 100000 in
set_option maxHeartbeats 4000000 in
theorem rnumbers_any (n : Nat) (B : List UInt8) (vb : Value) (base : Nat) (w : World) (hn : n ≤ 4096) (h : OwnC w 4 base vb (bitV B n)) : Calls Tryz.prog 152 #[vb] w fun e w' => ∃ v, e = .returned v ∧ OwnC w' 3 w.heap.size v (numV (numsL n B)) ∧ New w w' := by
  obtain ⟨a, c, rfl, -, hc1, hc2, hat⟩ := h.form
  have hbl := bitV_len B n
  have HAT : Hid (n = 0 ∨ ∃ g, a = some ⟨g, 0, none⟩ ∧ ∀ (i : Nat), i < n → w.cell? ⟨g, i, none⟩ = some (.bool (bitL B i))) := hid (by
    rcases hat with q | ⟨g, q1, -, -, -, q2⟩
    · rw [q] at hbl
      exact .inl (by simpa using hbl.symm)
    · refine .inr ⟨g, q1, fun i hi => ?_⟩
      rw [q2 i (by rw [hbl]; exact hi)]
      unfold bitV
      simp)
  rw [hbl] at hc1 ⊢
  unfold maxLen at hc2
  obtain ⟨i0, hi, hz0, hz1, hz2⟩ := info_parts info_intB
  have HLE := hid (fun k => numsL_leB k B)
  clear h hat hbl
  go_enter Tryz.func152, Tryz.ntmps152
  go_wp2
  go_loopw [8, 3] (fun i o wr => ∃ (k : Nat) (v : Value), i = .int .i64 k ∧ v = o ∧ k ≤ n ∧ OwnC wr 3 w.heap.size v (numV (numsL k B)) ∧ New w wr) (fun i _ _ => n - (intOf i).toNat)
  case atStart => exact ⟨0, _, rfl, rfl, by omega, OwnC.nil _ _ _, Mod.refl _ _⟩
  case round =>
    obtain ⟨k, v, rfl, rfl, hk, hO, hN⟩ := hrel
    have HO := hid hO; have HN := hid hN
    clear hO hN
    by_cases hlt : k < n
    · have hltI : (k : Int) < (n : Int) := by omega
      rcases HAT.out with hnil | ⟨g, rfl, hcc⟩
      · omega
      · have g0 := New.cellv HN.out (hcc k hlt)
        have hsc := numsL_succ k B
        have hle := HLE.out k
        cases hb : bitL B k with
        | true =>
          rw [hb] at g0 hsc
          rw [if_pos rfl] at hsc
          have HSC := hid (show numV (numsL (k + 1) B) = numV (numsL k B) ++ [.int .i64 (k : Int)] by rw [hsc]; unfold numV; rw [List.map_append]; rfl)
          have hLl : (numV (numsL k B)).length ≤ 4096 := by unfold numV; rw [List.length_map]; omega
          obtain ⟨L, hL⟩ : ∃ L, L = numV (numsL k B) := ⟨_, rfl⟩
          rw [← hL] at HO HSC hLl
          clear hL hb hsc hcc
          go_wp2_with (first | (at_builtin; refine wpList_append_own_at _ rfl _ _ 35 rfl w.heap.size 3 i0 _ 1 8 Tryz.underlying35 hi hz0 hz1 hz2 rfl (by decide) v L.length L rfl ?ow ⟨wr.heap.size, 0, none⟩ 1 1 [.int .i64 (k : Int)] rfl rfl ?hn ?h1 ?h63 ?hby ?hba ?_) | fail)
          case ow => exact HO.out.new ((Mod.refl _ _).alloc _)
          case hn => exact fun j u hj => one_newC wr _ _ rfl j u hj
          case h1 => intro u hu; simp at hu; subst hu; rfl
          case h63 => unfold maxLen; omega
          case hby => omega
          case hba => have := HN.out.size; simp; omega
          intro o6 w6 r6 g6 _ _
          have O6 : Hid (OwnC w6 3 w.heap.size o6 (L ++ [.int .i64 (k : Int)])) := hid (by
            unfold OwnC
            rw [List.length_append]
            exact r6)
          have N6 : Hid (New w w6) := hid (newGrown (HN.out.alloc _) g6 (fun j hj => by
            obtain ⟨_, _, -, hb, -⟩ := HO.out.form
            exact hb j hj))
          clear r6 g6
          go_wp2
          exact ⟨⟨k + 1, _, by simp, rfl, by omega, by rw [HSC.out]; exact O6.out, N6.out⟩, by simp [intOf]; omega⟩
        | false =>
          rw [hb] at g0 hsc
          rw [if_neg (by decide), List.append_nil] at hsc
          have HSC := hid hsc
          clear hb hsc hcc
          go_wp2
          exact ⟨⟨k + 1, _, by simp, rfl, by omega, by rw [HSC.out]; exact HO.out, HN.out⟩, by simp [intOf]; omega⟩
    · obtain rfl : k = n := by omega
      go_wp2
      go_ret
      exact ⟨_, rfl, HO.out, HN.out⟩
set_option maxRecDepth 100000 in
set_option maxHeartbeats 4000000 in
theorem rlist_any (n : Nat) (s : ByteArray) (w : World) (h : FieldOf n s.data.toList) (hn : n ≤ 4096) : Calls Tryz.prog 109 #[.int .i64 n, .string s] w fun e w' => ∃ v, e = .returned (.tuple #[v, .int .i64 0]) ∧ OwnC w' 3 w.heap.size v (numV (numsL n s.data.toList)) ∧ New w w' := by
  have HC := hid (fun W => rcheck_ok n s W h hn)
  have HT := hid (fun W => rtruths_any n s W h hn)
  have HNU := hid (fun vb base W q => rnumbers_any n s.data.toList vb base W hn q)
  clear h
  go_enter Tryz.func109, Tryz.ntmps109
  go_wp2_with fail
  refine (HC.out _).mono ?_
  rintro e w1 ⟨rfl, rfl⟩
  go_wp2_with fail
  refine (HT.out _).mono ?_
  rintro e w2 ⟨v2, rfl, o2, n2⟩
  have O2 := hid o2
  have N2 := hid n2
  obtain ⟨a2, c2, hv2, -⟩ := o2.form
  have HNX := hid (fun W (q : OwnC W 4 w.heap.size v2 (bitV s.data.toList n)) => HNU.out v2 w.heap.size W q)
  clear o2 n2 hv2
  go_wp2_with fail
  refine (HNX.out _ O2.out).mono ?_
  rintro e w3 ⟨v3, rfl, o3, n3⟩
  have O3 := hid (o3.base' N2.out.size)
  have N3 := hid (N2.out.trans n3)
  clear o3 n3
  go_wp2
  go_ret2
  exact ⟨_, rfl, O3.out, N3.out⟩
end Go.Proofs.YtbgmkplpolgebaaGreatDoor

namespace Go.Proofs.YtbgmkplpolgebaaGreatDoor
set_option linter.unusedSimpArgs false
set_option linter.unusedVariables false
open Go.RowKit Go.Shelf
attribute [local go_sem] Oper.semAt_some

/-- What lies about the loop of List. -/
structure LEnv (w : World) (fb B D n c : Nat) (s : List UInt8) (lo : Obj) (U : List Nat) (W : World) : Prop where
  box : ∃ v, Blk W w.heap.size #[v] 35 ∧ OwnC W 3 (D + 2) v (numV U)
  err : Blk W (w.heap.size + 1) #[.int .i64 0] 28
  fld : Blk W fb #[.int .i64 n, .slice (some ⟨B, 0, none⟩) s.length c] 120
  by' : ByAt W B s
  hD : W.heap[D]? = some (.deferred (some []))
  hL : W.heap[D + 1]? = some lo
  new' : New w W
theorem LEnv.put {w : World} {fb B D n c : Nat} {s : List UInt8} {lo lo' : Obj} {U : List Nat} {W : World} (h : LEnv w fb B D n c s lo U W) (h1 : w.heap.size + 1 < D) (h2 : fb < D) (h3 : B < D) : LEnv w fb B D n c s lo' U (W.putObj (D + 1) lo') := by
  obtain ⟨⟨v, b1, b2⟩, b3, b4, b5, b6, b7, b8⟩ := h
  refine ⟨⟨v, Blk.putObj (by omega) b1, b2.mod (S := fun k => k = D + 1) (Mod.putObj (Mod.refl _ _) _ _ (.inl rfl)) (fun k hk _ q => by omega)⟩, Blk.putObj (by omega) b3, Blk.putObj (by omega) b4, b5.of_heap (World.putObj_heap_other (by omega)), obz_put (by omega) b6, World.putObj_heap_same (Array.getElem?_eq_some_iff.1 b7).1, Mod.putObj b8 _ _ (.inr (by omega))⟩
theorem LEnv.new {w : World} {fb B D n c : Nat} {s : List UInt8} {lo : Obj} {U : List Nat} {W W' : World} (h : LEnv w fb B D n c s lo U W) (hm : New W W') : LEnv w fb B D n c s lo U W' := by
  obtain ⟨⟨v, b1, b2⟩, b3, b4, b5, b6, b7, b8⟩ := h
  exact ⟨⟨v, New.blk hm b1, b2.new hm⟩, New.blk hm b3, New.blk hm b4, b5.new hm, obz_new hm b6, obz_new hm b7, Mod.trans b8 hm⟩
theorem LEnv.grow {w : World} {fb B D n c : Nat} {s : List UInt8} {lo : Obj} {U U' : List Nat} {W W' : World} {v v' : Value} (h : LEnv w fb B D n c s lo U W) (hb : Blk W w.heap.size #[v] 35) (ho : OwnC W 3 (D + 2) v (numV U)) (ho' : OwnC W' 3 (D + 2) v' (numV U')) (hm : Mod (fun k => D + 2 ≤ k) W W')
    (h1 : w.heap.size + 1 < D) (h2 : fb < D) (h3 : B < D) (h4 : w.heap.size + 2 ≤ fb) (h5 : w.heap.size + 2 ≤ B) : LEnv w fb B D n c s lo U' (W'.setCell ⟨w.heap.size, 0, none⟩ v') := by
  obtain ⟨-, b3, b4, b5, b6, b7, b8⟩ := h
  have hms : Mod (fun k => k = w.heap.size) W' (W'.setCell ⟨w.heap.size, 0, none⟩ v') := Mod.set (Mod.refl _ _) _ _ (.inl rfl)
  refine ⟨⟨v', ((hm.blk hb (by omega)).set 0 v').row rfl, ho'.mod hms (fun k hk _ q => by omega)⟩, hms.blk (hm.blk b3 (by omega)) (by omega), hms.blk (hm.blk b4 (by omega)) (by omega), (b5.mod hm (by omega)).mod hms (by omega), obz_set (by show D ≠ w.heap.size; omega) ((hm.block D (Array.getElem?_eq_some_iff.1 b6).1 (by omega)).trans b6), obz_set (by show D + 1 ≠ w.heap.size; omega) ((hm.block (D + 1) (Array.getElem?_eq_some_iff.1 b7).1 (by omega)).trans b7), ?_⟩
  exact (b8.trans' hm (fun k hk q => by omega)).trans' hms (fun k hk q => by omega)
set_option maxRecDepth 100000 in
set_option maxHeartbeats 8000000 in
theorem bList_any (n : Nat) (s : ByteArray) (w : World) (h : FieldOf n s.data.toList) (hn : n ≤ 4096) :
    Calls Tryz.prog 47 #[.int .i64 n, .string s] w fun e w' => ∃ v, e = .returned (.tuple #[v, .int .i64 0]) ∧ OwnC w' 3 w.heap.size v (numV (numsL n s.data.toList)) ∧ New w w' := by
  have hlen : s.data.toList.length = s.size := by rw [Array.length_toList]; rfl
  have hl := h.len
  rw [hlen] at hl
  have HOP := hid (fun a W (q : W.cell? ⟨a, 0, none⟩ = some (.string s)) => bopen_one n s a 1 W h hn q (Nat.le_refl _) (by unfold maxLen; omega))
  have HNL := hid (numsL_all h)
  have hss : s.size ≤ 512 := by omega
  clear hl h
  obtain ⟨i0, hi0, hz0, hz1, hz2⟩ := info_parts info_intB
  refine (callsIn_wide (n := 9)).1 ?_
  refine callsIn_of_wp_marks Tryz.func47 rfl trivial ?_ rfl
  simp only [Tryz.ntmps47, List.size_toArray, List.length_cons, List.length_nil, Nat.reduceAdd, Nat.reduceSub, Array.replicate_succ, Array.replicate_zero, List.push_toArray, List.append_toArray, List.nil_append, List.cons_append]
  gi_wp2_with fail
  refine ⟨trivial, (callsIn_wide.2 (HOP.out _ _ ((Blk.newAt (by simp)).cellv 0 rfl))).mono ?_⟩
  rintro e w1 ⟨v, rfl, ⟨G, cap, B, cb, rfl, h1, h2, h3, h4, h5, h6, h7⟩, n1⟩
  have N1 : Hid (New w w1) := hid (((((Mod.refl _ w).alloc (.cells #[.slice none 0 0] 35)).alloc (.cells #[.int .i64 0] 28)).alloc (.cells #[.string s] 9) : New w _).trans n1)
  have R1 : Hid (Blk w1 w.heap.size #[.slice none 0 0] 35) := hid (New.blk n1 (((Blk.new _ _ _).alloc _).alloc _))
  have E1 : Hid (Blk w1 (w.heap.size + 1) #[.int .i64 0] 28) := hid (New.blk n1 ((Blk.newAt (by simp)).alloc _))
  have HBY := hid h6
  have hB1 : w.heap.size + 2 ≤ B := by simp at h7; omega
  have hF1 : w.heap.size + 2 ≤ w1.heap.size := by have := E1.out.lt; omega
  unfold maxLen at h2
  clear h6 h7 n1
  gi_wp2_with fail
  refine ⟨trivial, (callsIn_wide.2 (all_any _ _ _)).mono ?_⟩
  rintro e w2 ⟨rfl, hf2, n2⟩
  have HF2 := hid hf2
  have HB2 := hid (HBY.out.new n2)
  have R2 := hid (New.blk n2 R1.out)
  have E2 := hid (New.blk n2 E1.out)
  have N2 := hid (N1.out.trans n2)
  obtain ⟨fb, hfb⟩ : ∃ fb, fb = w1.heap.size := ⟨_, rfl⟩
  rw [← hfb] at HF2 hF1 ⊢
  have hD1 : w.heap.size + 1 < w2.heap.size := E2.out.lt
  have hD2 : fb < w2.heap.size := HF2.out.lt
  have hD3 : B < w2.heap.size := HB2.out.lt
  clear hf2 n2 HBY R1 E1 N1 hfb h3 h4 h5 HOP
  gi_wp2_with fail
  refine wpIn_range rfl (by omega) (gf := 148) (lb := #[.pointer (some ⟨fb, 0, none⟩)]) rfl trivial (enters_of Tryz.func148 (by kernel_rfl) rfl) ?_
  intro fn _ rec hrec
  have hl0 : ((w2.alloc (.deferred (some []))).alloc (.loop (rec .ready none))).heap[w2.heap.size + 1]? = some (.loop (rec .ready none)) := by
    have := World.alloc_heap_new (w := w2.alloc (.deferred (some []))) (o := .loop (rec .ready none))
    rwa [World.size_alloc] at this
  have hd0 : ((w2.alloc (.deferred (some []))).alloc (.loop (rec .ready none))).heap[w2.heap.size]? = some (.deferred (some [])) := (Below.heap_alloc _ _ _ (by simp)).trans (World.alloc_heap_new w2 _)
  have hst : New w2 ((w2.alloc (.deferred (some []))).alloc (.loop (rec .ready none))) := ((Mod.refl _ _).alloc _).alloc _
  obtain ⟨D, hD⟩ : ∃ D, D = w2.heap.size := ⟨_, rfl⟩
  rw [← hlen] at HF2
  have henv : LEnv w fb B D n cb s.data.toList (.loop (rec .ready none)) [] ((w2.alloc (.deferred (some []))).alloc (.loop (rec .ready none))) :=
    ⟨⟨_, New.blk hst R2.out, OwnC.nil _ _ _⟩, New.blk hst E2.out, New.blk hst HF2.out, HB2.out.new hst, by rw [hD]; exact hd0, by rw [hD]; exact hl0, Mod.trans N2.out hst⟩
  rw [← hD] at hrec hD1 hD2 hD3 ⊢
  generalize (w2.alloc (.deferred (some []))).alloc (.loop (rec .ready none)) = W1 at *
  clear hl0 hd0 hst hD HF2 HB2 R2 E2 N2 w2
  refine (all_iter s.data.toList n cb B fb (D + 1) 8 (by omega) (fun T W => (∀ i ∈ T, i < 8 * s.data.toList.length) ∧ LEnv w fb B D n cb s.data.toList (.loop (rec .ready none)) T W) ?hI ?hY _ ⟨by simp, henv⟩ (by omega)).mono ?fin
  case hI => exact fun T W e => ⟨e.2.fld, e.2.by'⟩
  case fin =>
    rintro e W ⟨hv, hTi, hA⟩
    refine ⟨hv, hA.hD, .inl ⟨hA.hL, ?_⟩⟩
    refine name_worldZ (p := fun W => Exit.inBlock _ _ _ _ W) (fun W5 hW5 => ?_)
    have h5 : LEnv w fb B D n cb s.data.toList (.loop (rec .exhausted none)) (numsL n s.data.toList) W5 := by
      rw [hW5, show numsL n s.data.toList = numsL (8 * s.data.toList.length) s.data.toList by rw [HNL.out]]
      exact hA.put hD1 hD2 hD3
    obtain ⟨⟨v, b1, b2⟩, b3, -, -, b6, -, b8⟩ := h5
    have HB := hid b1; have HE := hid b3; have HO := hid b2; have HD := hid b6; have HN := hid b8
    obtain ⟨a, c, hvf, -⟩ := b2.form
    rw [show (numV (numsL n s.data.toList)).length = (numsL n s.data.toList).length by unfold numV; rw [List.length_map]] at hvf
    have x0 := b1.cellv 0 rfl; have xl := b1.lt; have xf := b1.frz 0
    have y0 := b3.cellv 0 rfl; have yl := b3.lt; have yf := b3.frz 0
    clear hA hW5 b1 b2 b3 b6 b8 hv hTi henv hrec HNL
    subst hvf
    gi_wp2
    refine name_worldZ (p := fun W => bodyPostM _ _ _ _ _ _ _ W) (fun W6 hW6 => ?_)
    have B6 : Blk W6 w.heap.size #[.slice a (numsL n s.data.toList).length c] 35 := by
      rw [hW6]
      apply Blk.row
      · repeat (first | with_reducible exact HB.out | (with_reducible apply Blk.newAt; (simp; done)) | with_reducible apply Blk.alloc | with_reducible apply Blk.drew | with_reducible apply Blk.drewN | with_reducible apply Blk.set | (with_reducible apply Blk.other; · first | (simp; done) | (simp; omega) | omega) | (with_reducible apply Blk.putObj; · first | (simp; done) | (simp; omega) | omega))
      · rfl
    have E6 : Blk W6 (w.heap.size + 1) #[.int .i64 0] 28 := by
      rw [hW6]
      apply Blk.row
      · repeat (first | with_reducible exact HE.out | (with_reducible apply Blk.newAt; (simp; done)) | with_reducible apply Blk.alloc | with_reducible apply Blk.drew | with_reducible apply Blk.drewN | with_reducible apply Blk.set | (with_reducible apply Blk.other; · first | (simp; done) | (simp; omega) | omega) | (with_reducible apply Blk.putObj; · first | (simp; done) | (simp; omega) | omega))
      · rfl
    have D6 : W6.heap[D]? = some (.deferred (some [])) := by
      rw [hW6]
      exact obz_set (by show D ≠ w.heap.size + 1; omega) (obz_set (by show D ≠ w.heap.size; omega) HD.out)
    have M6 : Mod (fun k => k = w.heap.size ∨ k = w.heap.size + 1) W5 W6 := by
      rw [hW6]
      exact Mod.set (Mod.set (Mod.refl _ _) _ _ (.inl (.inl rfl))) _ _ (.inl (.inr rfl))
    have O6 := HO.out.mod M6 (fun k hk _ q => by omega)
    have N6 : New w W6 := HN.out.trans' M6 (fun k hk q => by omega)
    clear hW6
    have B7 := Blk.putObj (r := D) (o := .deferred none) (by omega) B6
    have E7 := Blk.putObj (r := D) (o := .deferred none) (by omega) E6
    have O7 := O6.mod (S := fun k => k = D) (Mod.putObj (Mod.refl _ _) D (.deferred none) (.inl rfl)) (fun k hk _ q => by omega)
    have N7 : New w (W6.putObj D (.deferred none)) := Mod.putObj N6 _ _ (.inr (by omega))
    refine ⟨by simp, .inl ⟨_, _, rfl, run_takeDeferred D6, ?_⟩⟩
    refine ⟨by simp, .inr ⟨fun _ => by omega, _, _, 98, #[.pointer (some ⟨w.heap.size + 1, 0, none⟩)], rfl, by simp [go_sem], fun g _ => trivial, ?_⟩⟩
    refine CallsDIn.mono' (bcaught_idleW ⟨w.heap.size + 1, 0, none⟩ _) ?_
    rintro e u' w9 ⟨rfl, rfl, rfl⟩
    have d0 := B7.cellv 0 rfl; have d1 := E7.cellv 0 rfl
    refine ⟨.tuple #[.slice a (numsL n s.data.toList).length c, .int .i64 0], by simp [results, Tryz.results47, go_sem, d0, d1], ⟨_, rfl, O7.base' (by omega), N7⟩⟩
  case hY =>
    intro T i W hA hi hTl
    obtain ⟨hTi, hA⟩ := hA
    have hTlen := hTl
    have HTI := hid (show ∀ j ∈ T ++ [i], j < 8 * s.data.toList.length from fun j hj => by
      rcases List.mem_append.1 hj with q | q
      · exact hTi j q
      · simp only [List.mem_singleton] at q; omega)
    clear hTi
    refine yieldAt_round hrec hA.hL rfl trivial ?_
    gi_wp2
    refine ⟨hA.hL, ?_⟩
    refine name_worldZ (p := fun W => Code.wpIn _ _ _ _ _ _ W) (fun W3 hW3 => ?_)
    have h3 : LEnv w fb B D n cb s.data.toList (.loop (rec .busy none)) T W3 := by rw [hW3]; exact hA.put hD1 hD2 hD3
    have H3 := hid h3
    obtain ⟨⟨v, b1, b2⟩, -, -, -, -, -, -⟩ := h3
    have HB := hid b1; have HO := hid b2
    obtain ⟨a, c, hv, hvb, -⟩ := b2.form
    have x0 := b1.cellv 0 rfl; have xl := b1.lt; have xf := b1.frz 0
    have HVB := hid hvb
    have hDs : D + 2 ≤ W3.heap.size := by have := (Array.getElem?_eq_some_iff.1 H3.out.hL).1; omega
    clear hA hW3 b1 b2 hvb
    have hLl : (numV T).length ≤ 4096 := by unfold numV; rw [List.length_map]; omega
    have HSC := hid (show numV (T ++ [i]) = numV T ++ [.int .i64 (i : Int)] by unfold numV; rw [List.map_append]; rfl)
    obtain ⟨L, hL⟩ : ∃ L, L = numV T := ⟨_, rfl⟩
    rw [← hL] at HO HSC hLl hv
    have HLT := hid hL
    clear hL
    subst hv
    gi_wp2_with (gi_at_builtin; refine wpListIn_append_own _ rfl _ _ 35 rfl (D + 2) 3 i0 _ 1 8 Tryz.underlying35 hi0 hz0 hz1 hz2 rfl (by decide) _ L.length L rfl ?ow ⟨W3.heap.size, 0, none⟩ 1 1 [.int .i64 (i : Int)] rfl rfl ?hn ?h1 ?h63 ?hby ?hba ?_)
    case ow => exact HO.out.new ((Mod.refl _ _).alloc _)
    case hn => exact fun j u hj => one_newC W3 _ _ rfl j u hj
    case h1 => intro u hu; simp at hu; subst hu; rfl
    case h63 => unfold maxLen; omega
    case hby => omega
    case hba => simp; omega
    intro o4 w4 r4 g4 _
    have O4 : Hid (OwnC w4 3 (D + 2) o4 (numV (T ++ [i]))) := hid (by
      rw [HSC.out]
      unfold OwnC
      rw [List.length_append]
      exact r4)
    have M4 : Hid (Mod (fun k => D + 2 ≤ k) W3 w4) := hid (Mod.trans ((Mod.refl _ W3).alloc _) ⟨g4.os, g4.tape, g4.output, g4.size, fun k hk hx => g4.block k hk (fun q => hx (HVB.out k q.symm))⟩)
    clear r4 g4 x0 xl xf
    have B4 := hid (M4.out.blk HB.out (by omega))
    have x0 := B4.out.cellv 0 rfl; have xl := B4.out.lt; have xf := B4.out.frz 0
    have E6 := hid (H3.out.grow HB.out (by rw [← HLT.out]; exact HO.out) O4.out M4.out hD1 hD2 hD3 hF1 hB1)
    obtain ⟨a4, c4, hf4, -⟩ := O4.out.form
    subst hf4
    clear O4
    gi_wp2
    exact ⟨E6.out.hL, rfl, by simpa using HTI.out, E6.out.put hD1 hD2 hD3⟩
end Go.Proofs.YtbgmkplpolgebaaGreatDoor

namespace Go.Proofs.YtbgmkplpolgebaaGreatDoor
set_option linter.unusedSimpArgs false
set_option linter.unusedVariables false

/-! ### digits -/
def hexLows : List UInt8 := [48, 49, 50, 51, 52, 53, 54, 55, 56, 57, 97, 98, 99, 100, 101, 102]
def hexLow (n : Nat) : UInt8 := hexLows.getD n 0
def nib (c : UInt8) : Option Nat := if 48 ≤ c.toNat ∧ c.toNat ≤ 57 then some (c.toNat - 48) else if 97 ≤ c.toNat ∧ c.toNat ≤ 102 then some (c.toNat - 87) else none
def unhex : List UInt8 → Option (List UInt8)
  | [] => some []
  | [_] => none
  | a :: b :: r => match nib a, nib b, unhex r with
    | some x, some y, some t => some (UInt8.ofNat (16 * x + y) :: t)
    | _, _, _ => none
theorem low_nib {c : UInt8} {n : Nat} (h : nib c = some n) : hexLow n = c ∧ n < 16 := by
  have key : ∀ k : Nat, k < 256 → ∀ n, nib (UInt8.ofNat k) = some n → hexLow n = UInt8.ofNat k ∧ n < 16 := by
    intro k hk n hn
    have h2 : ∀ k : Nat, k < 256 → (match nib (UInt8.ofNat k) with | some n => decide (hexLow n = UInt8.ofNat k) && decide (n < 16) | none => true) = true := by decide +kernel
    have := h2 k hk
    rw [hn] at this
    simpa using this
  have := key c.toNat c.toNat_lt n (by rw [UInt8.ofNat_toNat]; exact h)
  rwa [UInt8.ofNat_toNat] at this
/-! ### lines -/
/-! ### messages -/
end Go.Proofs.YtbgmkplpolgebaaGreatDoor
