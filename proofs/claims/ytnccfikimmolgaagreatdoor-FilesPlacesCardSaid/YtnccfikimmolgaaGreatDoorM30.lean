/-
  Several texts in one, in their build order. The iterators over a piece's spans, whatever the loop's rounds do that go on. Conditions: as they stand.
-/
import Derived.Test.YtnccfikimmolgaaGreatDoorM28
import Derived.Test.YtnccfikimmolgaaGreatDoorM29
namespace Go.Proofs.YtnccfikimmolgaaGreatDoor
set_option linter.unusedSimpArgs false
set_option linter.unusedVariables false
open Go.RowKit Go.Shelf
attribute [local go_sem] Oper.semAt_some

abbrev spanV (s : SpanV) : Value := .agg #[.int .i64 s.file, .int .i64 s.frm, .int .i64 s.cnt]

set_option maxRecDepth 100000 in
set_option maxHeartbeats 2000000 in
theorem row_iter (a : Option Addr) (c : Nat) (l : List FileV) (piece i : Int) (Bi Bw lp m : Nat) (hm : 1 ≤ m) (Inv : List SpanV → World → Prop)
    (hI : ∀ T W, Inv T W → Blk W Bi #[.int .i64 i] 3 ∧ Blk W Bw #[.slice a l.length c, .int .i64 piece] 106 ∧ FilesAt W a c l)
    (hN : ∀ T W W', Inv T W → New W W' → Inv T W')
    (hY : ∀ T s W, Inv T W → T.length < 40 → YieldAt Fence.wide (m - 1) Tryz.prog lp #[spanV s] W fun e W' => e = .returned (.bool true) ∧ Inv (T ++ [s]) W' ∧ ∀ b cs, Blk W b cs 51 → Blk W' b cs 51)
    (W : World) (h0 : Inv [] W) (hl : l.length ≤ 40) (hf : ∀ f ∈ l, 0 ≤ f.len) (hs : sumOf l ≤ 65536) (p0 : 16 ≤ piece) (p1 : piece ≤ 1024) (i0 : 0 ≤ i) (i1 : i ≤ 70000) :
    CallsIn Fence.wide m Tryz.prog 176 #[.func (.yield lp) #[] #[], .pointer (some ⟨Bi, 0, none⟩), .pointer (some ⟨Bw, 0, none⟩)] W fun e W' => (∃ v, e = .returned v) ∧ Inv (rowGo (i * piece) ((i + 1) * piece) 0 0 l) W' := by
  refine callsIn_of_wp Tryz.func176 rfl trivial ?_ rfl
  simp only [Tryz.ntmps176, List.size_toArray, List.length_cons, List.length_nil, Nat.reduceAdd, Nat.reduceSub, Array.replicate_succ, Array.replicate_zero, List.push_toArray, List.append_toArray, List.nil_append, List.cons_append]
  obtain ⟨b1, b2, b3⟩ := hI _ _ h0
  have hm1 := b3.room; have hm2 := b3.cap
  unfold maxLen at hm2
  have c0 : W.cell? ⟨Bi, 0, none⟩ = some (.int .i64 i) := b1.cellv 0 rfl
  have c1 : W.cell? ⟨Bw, 0, none⟩ = some (.slice a l.length c) := b2.cellv 0 rfl
  have c2 : W.cell? ⟨Bw, 1, none⟩ = some (.int .i64 piece) := b2.cellv 1 rfl
  have HI := hid hI; have HN := hid hN; have HY := hid hY; have H0 := hid h0; have HF := hid hf; have HS := hid hs
  have q0 : 0 ≤ i * piece := Int.mul_nonneg i0 (by omega)
  have q1 : i * piece ≤ 70000 * 1024 := Int.mul_le_mul i1 p1 (by omega) (by omega)
  have q2 : (i + 1) * piece = i * piece + piece := by rw [Int.add_mul, Int.one_mul]
  have hmix : Tryz.prog.follows .mixedOrders = true := by kernel_rfl
  clear hI hN hY h0 b1 b2 b3 hf hs
  gi_wp2
  gi_region
  gi_wp2
  gi_loopw [23, 6] (fun k b wr => ∃ (j : Nat) (T : List SpanV), k = .int .i64 j ∧ b = .int .i64 (sumOf (l.take j)) ∧ j ≤ l.length ∧ T.length ≤ j ∧ T ++ rowGo (i * piece) ((i + 1) * piece) (sumOf (l.take j)) j (l.drop j) = rowGo (i * piece) ((i + 1) * piece) 0 0 l ∧ Inv T wr) (fun k _ _ => l.length - (intOf k).toNat)
  case atStart => exact ⟨0, [], rfl, rfl, by omega, by simp, by simp [sumOf], HN.out _ _ _ H0.out (Mod.drew (Mod.refl _ _))⟩
  case round =>
    obtain ⟨j, T, rfl, rfl, hj, hT, hgo, hinv⟩ := hrel
    have HG := hid hgo
    have HV := hid hinv
    obtain ⟨b1, b2, b3⟩ := HI.out _ _ hinv
    clear hgo hinv
    by_cases hlt : j < l.length
    · obtain ⟨bb, oo, rfl, hbb, hcc⟩ := b3.get (by omega)
      obtain ⟨pa, pc, g0, g1, g2, -, -⟩ := hcc j hlt
      have hsn := sum_next hlt
      have hm0 := sum_mono l HF.out j
      have hm1' := sum_mono l HF.out (j + 1)
      have HD := hid (List.drop_eq_getElem_cons hlt)
      have hfl := HF.out _ (List.getElem_mem hlt)
      obtain ⟨f, hfe⟩ : ∃ f, f = l[j] := ⟨_, rfl⟩
      rw [← hfe] at g0 g1 g2 hsn HD hfl
      obtain ⟨B, hB⟩ : ∃ B, B = sumOf (l.take j) := ⟨_, rfl⟩
      rw [hsn] at hm1'
      rw [← hB] at hsn hm0 hm1' HG ⊢
      have hsn2 := HS.out
      have s0 : 0 ≤ B := hm0.1
      have s1 : B + f.len ≤ 65536 := by omega
      have HSN := hid hsn
      clear b1 b2 b3 hcc hfe hB hsn hm0 hm1' hsn2
      by_cases hab : max (i * piece) B < min (i * piece + piece) (B + f.len)
      · have HGN := hid (show rowGo (i * piece) ((i + 1) * piece) B j (List.drop j l) = ⟨j, max (i * piece) B - B, min (i * piece + piece) (B + f.len) - max (i * piece) B⟩ :: rowGo (i * piece) ((i + 1) * piece) (B + f.len) (j + 1) (List.drop (j + 1) l) by
          rw [HD.out, rowGo, q2, if_pos hab]
          rfl)
        gi_wp2
        gi_region
        obtain ⟨fn, tmps, assign, body, hy, hR⟩ := HY.out T ⟨j, max (i * piece) B - B, min (i * piece + piece) (B + f.len) - max (i * piece) B⟩ (wr.alloc (.cells #[.slice pa f.path.length pc, .int .i64 f.len, .bool f.pad] 51)).drew (HN.out _ _ _ HV.out ((Mod.alloc (Mod.refl _ _) _).drew)) (by omega)
        have HR := hid hR
        clear hR
        gi_wp2
        refine HR.out.mono ?_
        rintro e W2 ⟨rfl, hi2, hk2⟩
        have HI2 := hid hi2
        have z1 : W2.cell? ⟨wr.heap.size, 1, none⟩ = some (.int .i64 f.len) := (hk2 _ _ (Blk.drew (Blk.new wr #[.slice pa f.path.length pc, .int .i64 f.len, .bool f.pad] 51))).cellv 1 rfl
        clear hi2 hk2
        gi_wp2
        go_roundw
        case rel => exact ⟨j + 1, T ++ [⟨j, max (i * piece) B - B, min (i * piece + piece) (B + f.len) - max (i * piece) B⟩], by simp, by rw [HSN.out], by omega, by simp; omega, by rw [← HG.out, HGN.out, HSN.out]; simp, HI2.out⟩
        case measure => simp [intOf]; omega
      · have HGN := hid (show rowGo (i * piece) ((i + 1) * piece) B j (List.drop j l) = rowGo (i * piece) ((i + 1) * piece) (B + f.len) (j + 1) (List.drop (j + 1) l) by
          rw [HD.out, rowGo, q2, if_neg hab]
          rfl)
        have hab2 : decide (max (i * piece) B < min (i * piece + piece) (B + f.len)) = false := decide_eq_false hab
        gi_wp2
        gi_region
        gi_wp2
        refine ⟨fun _ h => (by cases h), ?_⟩
        gi_wp2
        go_roundw
        case rel => exact ⟨j + 1, T, by simp, by rw [HSN.out], by omega, by omega, by rw [← HG.out, HGN.out, HSN.out], HN.out _ _ _ HV.out ((Mod.alloc (Mod.refl _ _) _).drew)⟩
        case measure => simp [intOf]; omega
    · have hd : l.drop j = [] := List.drop_of_length_le (by omega)
      rw [hd] at HG
      clear b1 b2 b3 hd
      gi_wp2
      go_end0
      refine ⟨⟨_, rfl⟩, ?_⟩
      rw [← HG.out]
      simpa [rowGo] using HV.out
set_option maxRecDepth 100000 in
set_option maxHeartbeats 2000000 in
theorem ap_iter (a : Option Addr) (c : Nat) (l : List FileV) (piece i : Int) (Bi Bw lp m : Nat) (hm : 1 ≤ m) (hne : Bw ≠ Bi) (Inv : List SpanV → World → Prop)
    (hI : ∀ T W, Inv T W → Blk W Bw #[.slice a l.length c, .int .i64 piece] 105 ∧ FilesAt W a c l)
    (hN : ∀ T W W', Inv T W → Mod (fun k => k = Bi) W W' → Inv T W')
    (hY : ∀ T s W, Inv T W → T.length < 40 → YieldAt Fence.wide (m - 1) Tryz.prog lp #[spanV s] W fun e W' => e = .returned (.bool true) ∧ Inv (T ++ [s]) W' ∧ ∀ b cs, Blk W b cs 51 → Blk W' b cs 51)
    (W : World) (h0 : Inv [] W) (hbi : Blk W Bi #[.int .i64 i] 3) (hl : l.length ≤ 40) (hf : ∀ f ∈ l, 0 ≤ f.len ∧ f.len ≤ 65536) (p0 : 16 ≤ piece) (p1 : piece ≤ 1024) (i0 : 0 ≤ i) (i1 : i ≤ 70000) :
    CallsIn Fence.wide m Tryz.prog 171 #[.func (.yield lp) #[] #[], .pointer (some ⟨Bw, 0, none⟩), .pointer (some ⟨Bi, 0, none⟩)] W fun e W' => (∃ v, e = .returned v) ∧ Inv (apGo piece i 0 l) W' := by
  refine callsIn_of_wp Tryz.func171 rfl trivial ?_ rfl
  simp only [Tryz.ntmps171, List.size_toArray, List.length_cons, List.length_nil, Nat.reduceAdd, Nat.reduceSub, Array.replicate_succ, Array.replicate_zero, List.push_toArray, List.append_toArray, List.nil_append, List.cons_append]
  obtain ⟨b2, b3⟩ := hI _ _ h0
  have hm1 := b3.room; have hm2 := b3.cap
  unfold maxLen at hm2
  have c1 : W.cell? ⟨Bw, 0, none⟩ = some (.slice a l.length c) := b2.cellv 0 rfl
  have HI := hid hI; have HN := hid hN; have HY := hid hY; have H0 := hid h0; have HF := hid hf; have HBI := hid hbi
  have hmix : Tryz.prog.follows .mixedOrders = true := by kernel_rfl
  clear hI hN hY h0 b2 b3 hf hbi
  gi_wp2
  gi_loopw [11] (fun k wr => ∃ (j : Nat) (x : Int), k = .int .i64 j ∧ j ≤ l.length ∧ 0 ≤ x ∧ x ≤ 70000 ∧ apGo piece x j (l.drop j) = apGo piece i 0 l ∧ Blk wr Bi #[.int .i64 x] 3 ∧ Inv [] wr) (fun k _ => l.length - (intOf k).toNat)
  case atStart => exact ⟨0, i, rfl, by omega, i0, i1, rfl, HBI.out, H0.out⟩
  case round =>
    obtain ⟨j, x, rfl, hj, x0, x1, hgo, hbi, hinv⟩ := hrel
    have HG := hid hgo
    have HV := hid hinv
    have HB := hid hbi
    obtain ⟨b2, b3⟩ := HI.out _ _ hinv
    clear hgo hinv
    by_cases hlt : j < l.length
    · obtain ⟨bb, oo, rfl, hbb, hcc⟩ := b3.get (by omega)
      obtain ⟨pa, pc, g0, g1, g2, -, -⟩ := hcc j hlt
      have HD := hid (List.drop_eq_getElem_cons hlt)
      have hfl := HF.out _ (List.getElem_mem hlt)
      obtain ⟨f, hfe⟩ : ∃ f, f = l[j] := ⟨_, rfl⟩
      rw [← hfe] at g0 g1 g2 HD hfl
      obtain ⟨f0, f1⟩ := hfl
      have HCT := hid (fun w => count_any (some ⟨bb, oo, none⟩) l.length c piece pa pc f w f0 f1 p0 p1)
      have hcb := count_bound f0 f1 p0 p1
      obtain ⟨ct, hct⟩ : ∃ ct, ct = countOf f piece := ⟨_, rfl⟩
      rw [← hct] at HCT hcb
      have HC := hid hct
      obtain ⟨c0, c1⟩ := hcb
      have k0 := b2.cellv (v := .slice (some ⟨bb, oo, none⟩) l.length c) 0 rfl
      have k1 := b2.cellv (v := .int .i64 piece) 1 rfl
      have k2 := b2.lt
      have HW := hid b2
      clear b2 b3 hcc hfe hbi hct
      by_cases hx : x < ct
      · have q0 : 0 ≤ x * piece := Int.mul_nonneg x0 (by omega)
        have q1 : x * piece ≤ 70000 * 1024 := Int.mul_le_mul x1 p1 (by omega) (by omega)
        have HE := hid (show apGo piece x j (l.drop j) = [⟨j, x * piece, min piece (f.len - x * piece)⟩] by
          rw [HD.out, apGo, if_pos (by rw [← HC.out]; exact hx)])
        gi_wp2_with (refine ⟨trivial, ?_⟩; gi_at_call 170; refine (callsIn_wide.2 (HCT.out _)).mono ?_; rintro e w1 ⟨rfl, n1⟩; have N1 := hid (Mod.trans ((Mod.refl (fun _ => False) wr).alloc _) n1); have d0 := (New.blk N1.out HB.out).cellv (v := .int .i64 x) 0 rfl; have d1 := (New.blk N1.out HW.out).cellv (v := .int .i64 piece) 1 rfl; have d2 : w1.cell? ⟨wr.heap.size, 1, none⟩ = some (.int .i64 f.len) := (n1.blk (Blk.new wr #[.slice pa f.path.length pc, .int .i64 f.len, .bool f.pad] 51)).cellv 1 rfl; have d3 := (New.blk N1.out HB.out).frz 0; have d4 := (New.blk N1.out HB.out).lt; clear n1; obtain ⟨fn, tmps, assign, body, hy, hR⟩ := HY.out [] ⟨j, x * piece, min piece (f.len - x * piece)⟩ w1 (HN.out _ _ _ HV.out (New.mod N1.out)) (by simp); have HR := hid hR; clear hR)
        refine HR.out.mono ?_
        rintro e W2 ⟨rfl, hi2, -⟩
        have HI2 := hid hi2
        clear hi2
        gi_wp2
        refine bodyPost_ret (results_none rfl _ _ _) rfl ?_
        refine ⟨⟨_, rfl⟩, ?_⟩
        rw [← HG.out, HE.out]
        exact HI2.out
      · have HE := hid (show apGo piece x j (l.drop j) = apGo piece (x - ct) (j + 1) (l.drop (j + 1)) by
          rw [HD.out, apGo, if_neg (by rw [← HC.out]; exact hx), HC.out])
        gi_wp2_with (refine ⟨trivial, ?_⟩; gi_at_call 170; refine (callsIn_wide.2 (HCT.out _)).mono ?_; rintro e w1 ⟨rfl, n1⟩; have N1 := hid (Mod.trans ((Mod.refl (fun _ => False) wr).alloc _) n1); have d0 := (New.blk N1.out HB.out).cellv (v := .int .i64 x) 0 rfl; have d1 := (New.blk N1.out HW.out).cellv (v := .int .i64 piece) 1 rfl; have d2 : w1.cell? ⟨wr.heap.size, 1, none⟩ = some (.int .i64 f.len) := (n1.blk (Blk.new wr #[.slice pa f.path.length pc, .int .i64 f.len, .bool f.pad] 51)).cellv 1 rfl; have d3 := (New.blk N1.out HB.out).frz 0; have d4 := (New.blk N1.out HB.out).lt; clear n1)
        go_roundw
        case rel => exact ⟨j + 1, x - ct, by simp, by omega, by omega, by omega, by rw [← HE.out]; exact HG.out, (New.blk N1.out HB.out).set 0 _, HN.out _ _ _ (HN.out _ _ _ HV.out (New.mod N1.out)) (Mod.set (Mod.refl _ _) _ _ (.inl rfl))⟩
        case measure => simp [intOf]; omega
    · have hd : l.drop j = [] := List.drop_of_length_le (by omega)
      rw [hd] at HG
      clear b2 b3 hd
      gi_wp2
      go_end0
      refine ⟨⟨_, rfl⟩, ?_⟩
      rw [← HG.out]
      simpa [apGo] using HV.out

end Go.Proofs.YtnccfikimmolgaaGreatDoor
