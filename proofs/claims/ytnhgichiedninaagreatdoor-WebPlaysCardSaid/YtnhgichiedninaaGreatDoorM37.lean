/-
  Several texts in one, in their build order. The walk of New (the reference's client of web seeds). Conditions: the texts lie as told.
-/
import Derived.Test.YtnhgichiedninaaGreatDoorM36
import Derived.Test.YtnhgichiedninaaGreatDoorM16
namespace Go.Proofs.YtnhgichiedninaaGreatDoor
set_option linter.unusedSimpArgs false
set_option linter.unusedVariables false
open Go.RowKit Go.Shelf

theorem dup_yes {p : List ByteArray} {k j : Nat} (hk : k < p.length) (hj : j < k) (he : p[k] = p[j]) : dupIn p k = true := by
  unfold dupIn
  rw [List.getElem?_eq_getElem hk]
  simp only
  rw [Lib.containsS_iff, he]
  refine List.mem_of_getElem? (i := j) ?_
  rw [List.getElem?_take, if_pos hj, List.getElem?_eq_getElem (by omega)]
theorem dup_not {p : List ByteArray} {k : Nat} (hk : k < p.length) (h : ∀ (j : Nat) (hj : j < k), p[k] ≠ p[j]'(by omega)) : dupIn p k = false := by
  cases hd : dupIn p k with
  | false => rfl
  | true =>
    unfold dupIn at hd
    rw [List.getElem?_eq_getElem hk] at hd
    simp only at hd
    rw [Lib.containsS_iff] at hd
    obtain ⟨j, hj⟩ := List.getElem?_of_mem hd
    rw [List.getElem?_take] at hj
    split at hj
    · next hjk =>
      rw [List.getElem?_eq_getElem (by omega)] at hj
      injection hj with hj
      exact absurd hj.symm (h j hjk)
    · cases hj
theorem any_dup {p : List ByteArray} {k : Nat} (hk : k < p.length) (hd : dupIn p k = true) : (List.range p.length).any (dupIn p) = true := List.any_eq_true.2 ⟨k, List.mem_range.2 hk, hd⟩
def web0 : WebV := ⟨0, 0, 0, 0, 0, false⟩
theorem info_web : (Tryz.prog.info? 98).map (fun i => (i.zero.map (·.cells), i.size, i.bytes)) = some (some #[.int .i64 0, .int .i64 0, .int .i64 0, .int .i64 0, .int .i64 0, .bool false], 6, 48) := by kernel_rfl
theorem make_webs (n : Nat) (h : n ≤ 20) : ∃ ZC : Array Value, (∀ w : World, (Instr.makeSlice 92 (.int .i64 n) (.int .i64 n)).run Tryz.prog w = .ok (.slice (some ⟨w.heap.size, 0, none⟩) n n) (w.alloc (.cells ZC 98))) ∧ ∀ (i : Nat) v, (webRow (List.replicate n web0))[i]? = some v → ZC[i]? = some v := by
  have hin := info_web
  cases hi : Tryz.prog.info? 98 with
  | none => rw [hi] at hin; cases hin
  | some i0 =>
    rw [hi] at hin
    simp only [Option.map_some, Option.some.injEq, Prod.mk.injEq] at hin
    obtain ⟨h0, h1, h2⟩ := hin
    cases hz : i0.zero with
    | none => rw [hz] at h0; cases h0
    | some z =>
      rw [hz] at h0
      simp only [Option.map_some, Option.some.injEq] at h0
      refine ⟨madeCells z.cells (n * 6), fun w => ?_, fun i v hv => ?_⟩
      · have hr := run_makeSlice (P := Tryz.prog) w 92 98 i0 z Tryz.underlying92 hi hz .i64 .i64 n n (by omega) (by omega) (by rw [h1]; omega) (by rw [h2]; omega) (by omega)
        rw [hr, h1]
        simp
      · have hlt : i < n * 6 := by
          have := (List.getElem?_eq_some_iff.1 hv).1
          rw [webRow_len, List.length_replicate] at this
          exact this
        have hii : i = i / 6 * 6 + i % 6 := by omega
        have hrep : (List.replicate n web0)[i / 6]? = some web0 := by rw [List.getElem?_replicate, if_pos (by omega)]
        have h3 := webRow_at hrep (show i % 6 < 6 by omega)
        rw [← hii, hv] at h3
        have h4 : (webCells web0)[i % 6]? = z.cells[i % 6]? := by
          rw [h0]
          have : i % 6 < 6 := Nat.mod_lt _ (by omega)
          rcases Nat.lt_or_ge (i % 6) 6 with q | q
          · generalize i % 6 = m at q ⊢
            match m, q with
            | 0, _ => rfl
            | 1, _ => rfl
            | 2, _ => rfl
            | 3, _ => rfl
            | 4, _ => rfl
            | 5, _ => rfl
          · omega
        rw [h4] at h3
        have hsz : z.cells.size = 6 := by rw [h0]; rfl
        rw [h3]
        simp only [madeCells]
        rw [Array.getElem?_map, Array.getElem?_range]
        simp [hlt, hsz]
        rw [Array.getElem!_eq_getD, Array.getD_eq_getD_getElem?, Array.getElem?_eq_getElem (by omega)]
        rfl
theorem info_intK : (Tryz.prog.info? 3).map (fun i => (i.zero, i.size, i.bytes)) = some (some (.int .i64 0), 1, 8) := by kernel_rfl
theorem bools_src {w : World} {b1 o1 wc : Nat} {W : List Bool} (h : BoolsAt w (some ⟨b1, o1, none⟩) wc W) (hW : 1 ≤ W.length) : ∀ (j : Nat) (u : Value), (W.map Value.bool)[j]? = some u → w.cell? ((⟨b1, o1, none⟩ : Addr).add j) = some u := by
  obtain ⟨b, o, e, hb, hc⟩ := h.get (by omega)
  cases e
  intro j u hj
  rw [List.getElem?_map] at hj
  obtain ⟨x, hx, rfl⟩ := Option.map_eq_some_iff.1 hj
  obtain ⟨hl, he⟩ := List.getElem?_eq_some_iff.1 hx
  rw [addN, ← he]
  exact hc j hl
theorem bools_one (W : List Bool) : ∀ u ∈ W.map Value.bool, u.oneCell' = true := by
  intro u hu
  obtain ⟨x, -, rfl⟩ := List.mem_map.1 hu
  rfl
theorem bools_row {w : World} {base g cap : Nat} {W : List Bool} (h : w.ownsRow base 4 1 (.slice (some ⟨g, 0, none⟩) (0 + W.length) cap) (0 + W.length) ([] ++ W.map Value.bool)) : RowAt w g 4 (W.map Value.bool) ∧ W.length ≤ cap ∧ cap ≤ maxLen := by
  rcases h.2 with ⟨e, -⟩ | ⟨g2, cap2, cur, e, hbg, hg, hnc, hcm, hcs, htake⟩
  · cases e
  · have e1 : g2 = g ∧ cap2 = cap := by
      injection e with q1 q2 q3
      injection q1 with q1
      injection q1 with q1
      exact ⟨q1.symm, q3.symm⟩
    obtain ⟨rfl, rfl⟩ := e1
    refine ⟨⟨cur, hg, fun i v hv => ?_⟩, by simpa using hnc, hcm⟩
    have h6 : (cur.toList.take ((0 + W.length) * 1))[i]? = some v := by rw [htake]; simpa using hv
    rw [List.getElem?_take] at h6
    split at h6
    · rwa [Array.getElem?_toList] at h6
    · cases h6
/-- How the reference's client that is being made lies: j times none that gave. -/
structure MadeAt (w0 w : World) (R WB DB dc : Nat) (n : Nat) (W : List Bool) (run : Int) (v : Value) (j : Nat) : Prop where
  row : Blk w R #[.slice (some ⟨WB, 0, none⟩) n n, .slice (some ⟨DB, 0, none⟩) W.length dc, v, .int .i64 run, .int .i64 0] 94
  webs : RowAt w WB 98 (webRow (List.replicate n web0))
  want : RowAt w DB 4 (W.map Value.bool)
  own : w.ownsRow w0.heap.size 3 1 v j ((List.replicate j (-1 : Int)).map (Value.int .i64))
  lo : w0.heap.size ≤ R ∧ w0.heap.size ≤ WB ∧ w0.heap.size ≤ DB
  new' : New w0 w
theorem own_blkK {w : World} {base : Nat} {e : TypeId} {size n : Nat} {v : Value} {xs : List Value} (h : w.ownsRow base e size v n xs) : ∀ q, some q = v.ownBlock → ∃ cur, Blk w q cur e := fun q hq => by
  rcases h.2 with ⟨rfl, -⟩ | ⟨g, cap, cur, rfl, -, hg, -⟩
  · cases hq
  · have e : q = g := by injection hq
    subst e
    exact ⟨cur, hg⟩
theorem MadeAt.push {w0 w w4 : World} {R WB DB dc n : Nat} {W : List Bool} {run : Int} {v o4 : Value} {j : Nat} (h : MadeAt w0 w R WB DB dc n W run v j)
    (r4 : w4.ownsRow w0.heap.size 3 1 o4 (j + 1) ((List.replicate j (-1 : Int)).map (Value.int .i64) ++ [.int .i64 (-1)]))
    (g4 : (w.alloc (.cells #[.int .i64 (-1)] 3)).grownBy w4 v.ownBlock) : MadeAt w0 (w4.setCell ⟨R, 2, none⟩ o4) R WB DB dc n W run o4 (j + 1) ∧ Blk w4 R #[.slice (some ⟨WB, 0, none⟩) n n, .slice (some ⟨DB, 0, none⟩) W.length dc, v, .int .i64 run, .int .i64 0] 94 := by
  have hn2 : New w (w.alloc (.cells #[.int .i64 (-1)] 3)) := (Mod.refl _ _).alloc _
  have hm4 : Mod (fun q => some q = v.ownBlock) (w.alloc (.cells #[.int .i64 (-1)] 3)) w4 := ⟨g4.os, g4.tape, g4.output, g4.size, fun q hq hx => g4.block q hq hx⟩
  have hob := own_blkK h.own
  have hR4 : Blk w4 R #[.slice (some ⟨WB, 0, none⟩) n n, .slice (some ⟨DB, 0, none⟩) W.length dc, v, .int .i64 run, .int .i64 0] 94 := hm4.blk (New.blk hn2 h.row) (fun q => by obtain ⟨cur, hc⟩ := hob _ q; exact blk_ne h.row hc (by decide) rfl)
  have hW4 : RowAt w4 WB 98 (webRow (List.replicate n web0)) := (h.webs.new hn2).mod hm4 (fun q => by obtain ⟨cur, hc⟩ := hob _ q; exact h.webs.ne hc (by decide) rfl)
  have hD4 : RowAt w4 DB 4 (W.map Value.bool) := (h.want.new hn2).mod hm4 (fun q => by obtain ⟨cur, hc⟩ := hob _ q; exact h.want.ne hc (by decide) rfl)
  have hfar4 : o4.ownBlock ≠ some R := fun q => by
    obtain ⟨cur, hc⟩ := own_blkK r4 R q.symm
    exact blk_ne hR4 hc (by decide) rfl
  have hset : Mod (fun q => q = R) w4 (w4.setCell ⟨R, 2, none⟩ o4) := Mod.set (S := fun q => q = R) (Mod.refl _ _) ⟨R, 2, none⟩ _ (.inl rfl)
  refine ⟨⟨(hR4.set 2 _).row (by simp), hW4.mod hset (fun e => h.webs.ne h.row (by decide) e), hD4.mod hset (fun e => h.want.ne h.row (by decide) e), ?_, h.lo, ?_⟩, hR4⟩
  · rw [List.replicate_succ', List.map_append]
    exact r4.kept (row := some R) ⟨hset.os, hset.tape, hset.output, hset.size, fun q hq hx => hset.block q hq (fun e => hx (by rw [e]))⟩ (.inr hfar4)
  · exact (newGrown (h.new'.trans hn2) g4 (fun q hq => (World.ownsRow.lt h.own q hq).1)).trans' hset (fun q hq e => by have := h.lo.1; omega)
theorem MadeAt.ref {w0 w : World} {R WB DB dc n : Nat} {W : List Bool} {run : Int} {v : Value} (h : MadeAt w0 w R WB DB dc n W run v W.length) (hn : 1 ≤ n ∧ n ≤ 20) (hW : 1 ≤ W.length ∧ W.length ≤ 60) (hd : W.length ≤ dc ∧ dc ≤ maxLen) (hr : 1 ≤ run ∧ run ≤ 16) :
    ∃ GB gc, RefAt w R WB n DB dc GB gc ⟨List.replicate n web0, W, List.replicate W.length (-1), run, 0⟩ ∧ ∀ k, k < w0.heap.size → ¬ RefT R WB DB GB k := by
  have hown := h.own
  rcases h.own.2 with ⟨-, hz⟩ | ⟨g, cap, cur, rfl, hbg, hg, hnc, hcm, hcs, htake⟩
  · omega
  · refine ⟨g, cap, ⟨?_, h.webs, h.want, ⟨cur, hg, fun i u hu => ?_⟩, ?_, ?_, ?_, hr.1, hr.2, by show (0 : Int) ≤ 0; decide, by show (0 : Int) ≤ 1000000000; decide⟩, fun k hk q => ?_⟩
    · simp only [List.length_replicate]
      exact h.row
    · have h6 : (cur.toList.take (W.length * 1))[i]? = some u := by rw [htake]; exact hu
      rw [List.getElem?_take] at h6
      split at h6
      · rwa [Array.getElem?_toList] at h6
      · cases h6
    · simp only [List.length_replicate]
      exact ⟨⟨Nat.le_refl _, by unfold maxLen; omega⟩, hd, ⟨hnc, hcm⟩⟩
    · simp only [List.length_replicate]
      exact ⟨hn, hW, trivial⟩
    · intro u hu
      rw [List.eq_of_mem_replicate hu]
      exact ⟨by decide, by decide, by show (0 : Int) + 0 ≤ _; omega⟩
    · obtain ⟨l1, l2, l3⟩ := h.lo
      rcases q with q | q | q | q <;> omega
set_option maxRecDepth 100000 in
set_option maxHeartbeats 16000000 in
theorem rnew_any (a : Option Addr) (cp : Nat) (p : List ByteArray) (b1 o1 wc : Nat) (W : List Bool) (run : Int) (w : World) (h : StrsAt w a cp p) (hw : BoolsAt w (some ⟨b1, o1, none⟩) wc W) (hW : 1 ≤ W.length ∧ W.length ≤ 60) :
    Calls Tryz.prog 13 #[.slice a p.length cp, .slice (some ⟨b1, o1, none⟩) W.length wc, .int .i64 run] w fun e w' => (newE p run ≠ 0 ∧ e = .returned (.tuple #[.pointer none, .int .i64 (newE p run)]) ∧ New w w') ∨
      (newE p run = 0 ∧ ∃ R WB dc DB gc GB, e = .returned (.tuple #[.pointer (some ⟨R, 0, none⟩), .int .i64 0]) ∧ RefAt w' R WB p.length DB dc GB gc ⟨List.replicate p.length web0, W, List.replicate W.length (-1), run, 0⟩ ∧ New w w' ∧ ∀ k, k < w.heap.size → ¬ RefT R WB DB GB k) := by
  have hpc := h.room; have hpm := h.cap; have hwr := hw.room; have hwm := hw.cap
  unfold maxLen at hpm hwm
  have HS := hid h.small
  have HP := hid h
  have HW := hid hw
  obtain ⟨E, hE⟩ : ∃ E, E = newE p run := ⟨_, rfl⟩
  rw [← hE]
  have HE := hid hE
  clear h hw hE
  go_enter Tryz.func13, Tryz.ntmps13
  go_wp2
  go_loopw [17] (fun x wr => ∃ k : Nat, x = .int .i64 k ∧ k ≤ p.length ∧ (∀ (j : Nat) (hj : j < p.length), j < k → validU p[j] = true) ∧ wr = w) (fun x _ => p.length - (intOf x).toNat)
  case atStart => exact ⟨0, rfl, by omega, by intros; omega, rfl⟩
  case round =>
    obtain ⟨k, rfl, hk, hb, rfl⟩ := hrel
    have HB := hid hb
    clear hb
    by_cases hlt : k < p.length
    · obtain ⟨b2, o2, rfl, hb2, hc2⟩ := HP.out.get (by omega)
      have g1 := hc2 k hlt
      have hsz := HS.out _ (List.getElem_mem hlt)
      unfold maxLen at hsz
      have HV := hid (wrValid_any p[k] wr (by omega))
      clear hc2
      cases hv : validU p[k] with
      | true =>
        rw [hv] at HV
        have HVV := hid hv
        clear hv
        go_wp2_with fail
        refine HV.out.mono ?_
        rintro e w1 ⟨rfl, rfl⟩
        go_wp2
        refine ⟨⟨k + 1, by simp, by omega, fun j hj h => ?_, trivial⟩, by simp [intOf]; omega⟩
        rcases Nat.lt_succ_iff_lt_or_eq.1 h with h | h
        · exact HB.out j hj h
        · subst h; exact HVV.out
      | false =>
        rw [hv] at HV
        have HEE := hid (show E = 1 by rw [HE.out]; unfold newE; rw [if_pos (allU_not hlt hv)])
        clear hv
        go_wp2_with fail
        refine HV.out.mono ?_
        rintro e w1 ⟨rfl, rfl⟩
        go_wp2
        go_ret2
        exact .inl ⟨by rw [HEE.out]; decide, by rw [HEE.out]; rfl, Mod.refl _ _⟩
    · have hav := allU_upto hlt (fun j hj h => HB.out j hj h)
      have HAV := hid (show p.all validU ≠ false by rw [hav]; simp)
      clear hav HB
      by_cases g2 : run < 1 ∨ 16 < run
      · have HEE := hid (show E = 7 by rw [HE.out]; unfold newE; rw [if_neg HAV.out, if_pos g2])
        rcases g2 with g2 | g2
        all_goals
          go_wp2
          go_ret2
          exact .inl ⟨by rw [HEE.out]; decide, by rw [HEE.out]; rfl, Mod.refl _ _⟩
      by_cases g3 : p.length < 1 ∨ 20 < p.length
      · have HEE := hid (show E = 11 by rw [HE.out]; unfold newE; rw [if_neg HAV.out, if_neg g2, if_pos g3])
        rcases g3 with g3 | g3
        all_goals
          go_wp2
          go_ret2
          exact .inl ⟨by rw [HEE.out]; decide, by rw [HEE.out]; rfl, Mod.refl _ _⟩
      have HG2 := hid g2; have HG3 := hid g3
      have r1 : 1 ≤ run ∧ run ≤ 16 := by omega
      have l1 : 1 ≤ p.length ∧ p.length ≤ 20 := by omega
      have hng1 : ¬ run < 1 := by omega
      have hng2 : ¬ 16 < run := by omega
      have hng3 : ¬ p.length < 1 := by omega
      have hng4 : ¬ 20 < p.length := by omega
      clear g2 g3
      obtain ⟨b2, o2, rfl, hb2, hc2⟩ := HP.out.get (by omega)
      have HC2 := hid hc2
      clear hc2
      go_wp2
      go_loopw [41] (fun x w' => ∃ k : Nat, x = .int .i64 k ∧ k ≤ p.length ∧ (∀ j, j < k → dupIn p j = false) ∧ w' = wr) (fun x _ => p.length - (intOf x).toNat)
      case atStart => exact ⟨0, rfl, by omega, by intros; omega, rfl⟩
      case round =>
        obtain ⟨k, rfl, hk, hb, rfl⟩ := hrel
        have HB := hid hb
        clear hb
        by_cases hlt2 : k < p.length
        · have g1 := HC2.out k hlt2
          obtain ⟨s, hs⟩ : ∃ s, s = p[k] := ⟨_, rfl⟩
          rw [← hs] at g1
          have HSK := hid hs
          clear hs
          go_wp2
          go_loopw [50] (fun x w' => ∃ j : Nat, x = .int .i64 j ∧ j ≤ k ∧ (∀ (i : Nat) (hi : i < k), i < j → s ≠ p[i]'(by omega)) ∧ w' = wr) (fun x _ => k - (intOf x).toNat)
          case atStart => exact ⟨0, rfl, by omega, by intros; omega, rfl⟩
          case round =>
            obtain ⟨j, rfl, hj, hne, rfl⟩ := hrel
            have HN := hid hne
            clear hne
            by_cases hlt3 : j < k
            · have g2 := HC2.out j (by omega)
              obtain ⟨t, ht⟩ : ∃ t, t = p[j]'(by omega) := ⟨_, rfl⟩
              rw [← ht] at g2
              have HTJ := hid ht
              clear ht
              by_cases he : s = t
              · have HEE := hid (show E = 6 by rw [HE.out]; unfold newE; rw [if_neg HAV.out, if_neg HG2.out, if_neg HG3.out, if_pos (any_dup hlt2 (dup_yes hlt2 hlt3 (by rw [← HSK.out, ← HTJ.out]; exact he)))])
                subst he
                go_wp2
                go_ret2
                exact .inl ⟨by rw [HEE.out]; decide, by rw [HEE.out]; rfl, Mod.refl _ _⟩
              · have hbe : (s.toList == t.toList) = false := by
                  rw [beq_eq_false_iff_ne, ByteArray.toList_eq, ByteArray.toList_eq]
                  intro q
                  apply he
                  cases s; cases t
                  simp at q
                  rw [q]
                have HEE := hid he
                clear he
                go_wp2
                refine ⟨⟨j + 1, by simp, by omega, fun i hi h => ?_, trivial⟩, by simp [intOf]; omega⟩
                rcases Nat.lt_succ_iff_lt_or_eq.1 h with h | h
                · exact HN.out i hi h
                · subst h; rw [← HTJ.out]; exact HEE.out
            · have HD := hid (dup_not hlt2 (fun i hi => by rw [← HSK.out]; exact HN.out i hi (by omega)))
              go_wp2
              refine ⟨⟨k + 1, by simp, by omega, fun i hi => ?_, trivial⟩, by simp [intOf]; omega⟩
              rcases Nat.lt_succ_iff_lt_or_eq.1 hi with q | q
              · exact HB.out i q
              · rw [q]; exact HD.out
        · have HEE := hid (show E = 0 by
            rw [HE.out]; unfold newE
            rw [if_neg HAV.out, if_neg HG2.out, if_neg HG3.out, if_neg]
            rw [List.any_eq_true]
            rintro ⟨i, hi, hd⟩
            rw [HB.out i (by have := List.mem_range.1 hi; omega)] at hd
            cases hd)
          obtain ⟨ZC, hmk, hzc⟩ := make_webs p.length l1.2
          have HZC := hid hzc
          obtain ⟨i0, hi, hz0, hz1, hz2⟩ := info_parts info_bool
          clear hzc
          go_wp2_with fail
          refine wp_region_held_drew (S := (fun w' => True)) (by kernel_rfl) trivial (fun hHeld => ?_)
          refine wpAnyH_take (i := 0) (v := ?_) (by simp only [List.getElem?_toArray, List.getElem?_cons_succ, List.getElem?_cons_zero]; rfl) (by kernel_rfl) (by kernel_rfl) (by kernel_rfl) (by intro _ _ _ h; exact h) (Or.inl ⟨by rfl, ?_⟩) (by assumption) ?_
          rotate_left
          · intro w hSw
            (try dsimp only at hSw)
            first | (go_simp; done) | (go_simp; with_reducible rfl) | with_reducible rfl
          simp only [Act.put, List.setIfInBounds_toArray, List.set_cons_zero, List.set_cons_succ]
          refine wpAnyH_take (i := 1) (v := ?_) (by simp only [List.getElem?_toArray, List.getElem?_cons_succ, List.getElem?_cons_zero]; rfl) (by kernel_rfl) (by kernel_rfl) (by kernel_rfl) (by intro _ _ _ h; exact h) (Or.inl ⟨by rfl, ?_⟩) (by assumption) ?_
          rotate_left
          · intro w hSw
            (try dsimp only at hSw)
            first | (go_simp; done) | (go_simp; with_reducible rfl) | with_reducible rfl
          simp only [Act.put, List.setIfInBounds_toArray, List.set_cons_zero, List.set_cons_succ]
          refine wpAnyH_take (i := 3) (v := ?_) (by simp only [List.getElem?_toArray, List.getElem?_cons_succ, List.getElem?_cons_zero]; rfl) (by kernel_rfl) (by kernel_rfl) (by kernel_rfl) (by intro _ _ _ h; exact h) (Or.inl ⟨by rfl, ?_⟩) (by assumption) ?_
          rotate_left
          · intro w hSw
            (try dsimp only at hSw)
            first | (go_simp; done) | (go_simp; with_reducible rfl) | with_reducible rfl
          simp only [Act.put, List.setIfInBounds_toArray, List.set_cons_zero, List.set_cons_succ]
          refine wpAnyH_take (i := 5) (v := ?_) (by simp only [List.getElem?_toArray, List.getElem?_cons_succ, List.getElem?_cons_zero]; rfl) (by kernel_rfl) (by kernel_rfl) (by kernel_rfl) (by intro _ _ _ h; exact h) (Or.inl ⟨by rfl, ?_⟩) (by assumption) ?_
          rotate_left
          · intro w hSw
            (try dsimp only at hSw)
            first | (go_simp; done) | (go_simp; with_reducible rfl) | with_reducible rfl
          simp only [Act.put, List.setIfInBounds_toArray, List.set_cons_zero, List.set_cons_succ]
          refine wpAnyH_ready (rs := [2, 4]) (by kernel_rfl) (by simp) ?_
          refine AllReadyH.cons (by simp only [List.getElem?_toArray, List.getElem?_cons_succ, List.getElem?_cons_zero]; rfl) (fun K hK => ?_) (AllReadyH.cons (by simp only [List.getElem?_toArray, List.getElem?_cons_succ, List.getElem?_cons_zero]; rfl) (fun K hK => ?_) AllReadyH.nil)
          · go_simp
            refine hK.out _ _ trivial (fun hH1 => ?_)
            clear hK K
            try simp only [Act.put, List.setIfInBounds_toArray, List.set_cons_zero, List.set_cons_succ]
            refine wpAnyH_ready (rs := [4]) (by kernel_rfl) (by simp) ?_
            refine AllReadyH.cons (by simp only [List.getElem?_toArray, List.getElem?_cons_succ, List.getElem?_cons_zero]; rfl) (fun K hK => ?_) AllReadyH.nil
            (refine step_append_lies _ (by rfl) _ _ _ (by rfl) wr.heap.size 4 i0 _ 1 1 Tryz.underlying23 hi hz0 hz1 hz2 (by rfl) (by omega) (.slice none 0 0) 0 [] (by rfl) (World.ownsRow_nil _ _ _ _) ⟨b1, o1, none⟩ W.length wc (W.map Value.bool) (by rfl) (by simp) (bools_src ((HW.out.new ((Mod.refl (fun _ => False) wr).alloc (.cells ZC 98))).new (Mod.refl (fun _ => False) _).drew) hW.1) (bools_one W) (by omega) (by unfold maxLen; omega) (by omega) (by simp) _ (by rfl) ?_; intro g cap w5 hown hgrow hat hglt)
            refine hK.out _ _ trivial (fun hH2 => ?_)
            clear hK K
            simp only [Act.put, List.setIfInBounds_toArray, List.set_cons_zero, List.set_cons_succ, Nat.zero_add]
            refine wpAnyH_take (i := 6) (v := ?_) (by simp only [List.getElem?_toArray, List.getElem?_cons_succ, List.getElem?_cons_zero]; rfl) (by kernel_rfl) (by kernel_rfl) (by kernel_rfl) (by intro _ _ _ h; exact h) (Or.inl ⟨by rfl, ?_⟩) (by assumption) ?_
            rotate_left
            · intro w hSw
              (try dsimp only at hSw)
              first | (go_simp; done) | (go_simp; with_reducible rfl) | with_reducible rfl
            simp only [Act.put, List.setIfInBounds_toArray, List.set_cons_zero, List.set_cons_succ]
            refine wpAnyH_ready (rs := [7]) (by kernel_rfl) (by simp) ?_
            refine AllReadyH.cons (by simp only [List.getElem?_toArray, List.getElem?_cons_succ, List.getElem?_cons_zero]; rfl) (fun K hK => ?_) AllReadyH.nil
            go_simp
            refine hK.out _ _ trivial (fun hHeld7 => ?_)
            clear hK K hHeld7
            try simp only [Act.put, List.setIfInBounds_toArray, List.set_cons_zero, List.set_cons_succ]
            refine wpAnyH_take (i := 8) (v := ?_) (by simp only [List.getElem?_toArray, List.getElem?_cons_succ, List.getElem?_cons_zero]; rfl) (by kernel_rfl) (by kernel_rfl) (by kernel_rfl) (by intro _ _ _ h; exact h) (Or.inl ⟨by rfl, ?_⟩) (by assumption) ?_
            rotate_left
            · intro w hSw
              (try dsimp only at hSw)
              first | (go_simp; done) | (go_simp; with_reducible rfl) | with_reducible rfl
            simp only [Act.put, List.setIfInBounds_toArray, List.set_cons_zero, List.set_cons_succ]
            refine wpAnyH_done (by kernel_rfl) ?_ _
            refine name_worldZ (p := fun W => Exit.then _ _ _ _ W) (fun W6 hW6 => ?_)
            have hbr := bools_row hown
            have hN5 : New (wr.alloc (.cells ZC 98)).drew w5 := newGrown (Mod.refl _ _) hgrow (fun q hq => by cases hq)
            have hgs : g = wr.heap.size + 1 := by
              rcases hat with q | q
              · cases q
              · rw [q]; simp
            have hw5s : wr.heap.size + 1 ≤ w5.heap.size := by have := hN5.size; simpa using this
            obtain ⟨RX, hRX⟩ : ∃ RX, RX = w5.heap.size := ⟨_, rfl⟩
            obtain ⟨WX, hWX⟩ : ∃ WX, WX = wr.heap.size := ⟨_, rfl⟩
            have T_R : Blk W6 RX #[.slice (some ⟨WX, 0, none⟩) p.length p.length, .slice (some ⟨g, 0, none⟩) W.length cap, .slice none 0 0, .int .i64 run, .int .i64 0] 94 := by rw [hW6, hWX]; exact Blk.newAt hRX
            have T_W : RowAt W6 WX 98 (webRow (List.replicate p.length web0)) := by
              rw [hW6, hWX]
              exact RowAt.new (RowAt.new ⟨ZC, (Blk.new wr ZC 98).drew, HZC.out⟩ hN5) ((Mod.refl _ _).alloc _)
            have T_D : RowAt W6 g 4 (W.map Value.bool) := by rw [hW6]; exact hbr.1.new ((Mod.refl _ _).alloc _)
            have T_L : wr.heap.size ≤ RX ∧ wr.heap.size ≤ WX ∧ wr.heap.size ≤ g := by omega
            have T_N : New wr W6 := by rw [hW6]; exact ((((Mod.refl _ wr).alloc (.cells ZC 98)).drew : New wr _).trans hN5).alloc _
            have hbc := hbr.2
            clear hat hown hgrow hglt hgs hw5s hN5
            rw [← hRX]
            clear hRX hWX
            have HM := hid (show MadeAt wr W6 RX WX g cap p.length W run (.slice none 0 0) 0 from ⟨T_R, T_W, T_D, World.ownsRow_nil _ _ _ _, T_L, T_N⟩)
            clear T_R T_W T_D T_L T_N hW6 hmk
            obtain ⟨j0, hj, hy0, hy1, hy2⟩ := info_parts info_intK
            go_wp2
            go_loopw [69] (fun x wq => ∃ (k : Nat) (v : Value), x = .int .i64 k ∧ k ≤ W.length ∧ MadeAt wr wq RX WX g cap p.length W run v k) (fun x _ => W.length - (intOf x).toNat)
            case atStart => exact ⟨0, _, rfl, by omega, HM.out⟩
            case round =>
              obtain ⟨k, v, rfl, hk, hm⟩ := hrel
              have HMA := hid hm
              obtain ⟨wz, rfl⟩ : ∃ wz : World, wz = wr := ⟨_, rfl⟩
              by_cases hlt4 : k < W.length
              · have r2 : wz.cell? ⟨RX, 2, none⟩ = some v := hm.row.cellv 2 rfl
                have rl := hm.row.lt; have rf := hm.row.frz 2
                clear hm
                go_wp2_with (at_builtin; go_loud (refine wpList_append_own_at _ rfl _ _ 24 rfl _ 3 j0 _ 1 8 Tryz.underlying24 hj hy0 hy1 hy2 rfl (by decide) v k ((List.replicate k (-1 : Int)).map (Value.int .i64)) rfl (ownsZ_new HMA.out.own ((Mod.refl _ _).alloc _)) ⟨wz.heap.size, 0, none⟩ 1 1 [.int .i64 (-1)] rfl rfl ?hn ?h1 ?h63 ?hby ?hba ?_))
                case hn => first | exact one_newB wz _ _ rfl | exact fun j u hj => hj
                case h1 => intro u hu; simp at hu; subst hu; rfl
                case h63 => unfold maxLen; omega
                case hby => omega
                case hba => have := HMA.out.new'.size; simp; omega
                intro o4 w4 r4 g4 hne hob
                obtain ⟨sg, sc, rfl⟩ : ∃ sg sc, o4 = .slice sg (k + 1) sc := by
                  rcases r4.2 with ⟨e, -⟩ | ⟨g9, cap9, cur9, e, -⟩
                  · exact (hne e).elim
                  · exact ⟨_, _, e⟩
                obtain ⟨hP, hq⟩ := HMA.out.push (by simpa only [List.map_replicate] using r4) g4
                have HPP := hid hP
                have q2 : w4.cell? ⟨RX, 2, none⟩ = some v := hq.cellv 2 rfl
                have ql := hq.lt; have qf := hq.frz 2
                clear hP r4 g4 hq hne hob r2 rl rf
                go_wp2
                exact ⟨⟨k + 1, _, by simp, by omega, HPP.out⟩, by simp [intOf]; omega⟩
              · obtain rfl : k = W.length := by omega
                obtain ⟨GB, gc, hRA, hRT⟩ := HMA.out.ref l1 hW hbc r1
                have HRA := hid hRA; have HRT := hid hRT
                have N9 := hid hm.new'
                clear hm hRA hRT
                go_wp2
                go_ret2
                exact .inr ⟨HEE.out, RX, WX, cap, g, gc, GB, rfl, HRA.out, N9.out, HRT.out⟩
          · (refine step_append_lies _ (by rfl) _ _ _ (by rfl) wr.heap.size 4 i0 _ 1 1 Tryz.underlying23 hi hz0 hz1 hz2 (by rfl) (by omega) (.slice none 0 0) 0 [] (by rfl) (World.ownsRow_nil _ _ _ _) ⟨b1, o1, none⟩ W.length wc (W.map Value.bool) (by rfl) (by simp) (bools_src (HW.out.new (Mod.refl (fun _ => False) wr).drew) hW.1) (bools_one W) (by omega) (by unfold maxLen; omega) (by omega) (by simp) _ (by rfl) ?_; intro g cap w5 hown hgrow hat hglt)
            refine hK.out _ _ trivial (fun hH2 => ?_)
            clear hK K
            simp only [Act.put, List.setIfInBounds_toArray, List.set_cons_zero, List.set_cons_succ, Nat.zero_add]
            refine wpAnyH_ready (rs := [2]) (by kernel_rfl) (by simp) ?_
            refine AllReadyH.cons (by simp only [List.getElem?_toArray, List.getElem?_cons_succ, List.getElem?_cons_zero]; rfl) (fun K hK => ?_) AllReadyH.nil
            go_simp
            refine hK.out _ _ trivial (fun hHeld2 => ?_)
            clear hK K hHeld2
            try simp only [Act.put, List.setIfInBounds_toArray, List.set_cons_zero, List.set_cons_succ]
            refine wpAnyH_take (i := 6) (v := ?_) (by simp only [List.getElem?_toArray, List.getElem?_cons_succ, List.getElem?_cons_zero]; rfl) (by kernel_rfl) (by kernel_rfl) (by kernel_rfl) (by intro _ _ _ h; exact h) (Or.inl ⟨by rfl, ?_⟩) (by assumption) ?_
            rotate_left
            · intro w hSw
              (try dsimp only at hSw)
              first | (go_simp; done) | (go_simp; with_reducible rfl) | with_reducible rfl
            simp only [Act.put, List.setIfInBounds_toArray, List.set_cons_zero, List.set_cons_succ]
            refine wpAnyH_ready (rs := [7]) (by kernel_rfl) (by simp) ?_
            refine AllReadyH.cons (by simp only [List.getElem?_toArray, List.getElem?_cons_succ, List.getElem?_cons_zero]; rfl) (fun K hK => ?_) AllReadyH.nil
            go_simp
            refine hK.out _ _ trivial (fun hHeld7 => ?_)
            clear hK K hHeld7
            try simp only [Act.put, List.setIfInBounds_toArray, List.set_cons_zero, List.set_cons_succ]
            refine wpAnyH_take (i := 8) (v := ?_) (by simp only [List.getElem?_toArray, List.getElem?_cons_succ, List.getElem?_cons_zero]; rfl) (by kernel_rfl) (by kernel_rfl) (by kernel_rfl) (by intro _ _ _ h; exact h) (Or.inl ⟨by rfl, ?_⟩) (by assumption) ?_
            rotate_left
            · intro w hSw
              (try dsimp only at hSw)
              first | (go_simp; done) | (go_simp; with_reducible rfl) | with_reducible rfl
            simp only [Act.put, List.setIfInBounds_toArray, List.set_cons_zero, List.set_cons_succ]
            refine wpAnyH_done (by kernel_rfl) ?_ _
            refine name_worldZ (p := fun W => Exit.then _ _ _ _ W) (fun W6 hW6 => ?_)
            have hbr := bools_row hown
            have hN5 : New wr.drew w5 := newGrown (Mod.refl _ _) hgrow (fun q hq => by cases hq)
            have hgs : g = wr.heap.size := by
              rcases hat with q | q
              · cases q
              · rw [q]; simp
            have hw5s : wr.heap.size ≤ w5.heap.size := by have := hN5.size; simpa using this
            obtain ⟨RX, hRX⟩ : ∃ RX, RX = w5.heap.size + 1 := ⟨_, rfl⟩
            obtain ⟨WX, hWX⟩ : ∃ WX, WX = w5.heap.size := ⟨_, rfl⟩
            have T_R : Blk W6 RX #[.slice (some ⟨WX, 0, none⟩) p.length p.length, .slice (some ⟨g, 0, none⟩) W.length cap, .slice none 0 0, .int .i64 run, .int .i64 0] 94 := by rw [hW6, hWX]; exact Blk.newAt (by rw [hRX]; simp)
            have T_W : RowAt W6 WX 98 (webRow (List.replicate p.length web0)) := by
              rw [hW6, hWX]
              exact RowAt.new ⟨ZC, Blk.new w5 ZC 98, HZC.out⟩ ((Mod.refl _ _).alloc _)
            have T_D : RowAt W6 g 4 (W.map Value.bool) := by rw [hW6]; exact hbr.1.new (((Mod.refl _ _).alloc _).alloc _)
            have T_L : wr.heap.size ≤ RX ∧ wr.heap.size ≤ WX ∧ wr.heap.size ≤ g := by omega
            have T_N : New wr W6 := by rw [hW6]; exact ((((Mod.refl _ wr).drew : New wr _).trans hN5).alloc _).alloc _
            have hbc := hbr.2
            clear hat hown hgrow hglt hgs hw5s hN5
            rw [← hRX]
            clear hRX hWX
            have HM := hid (show MadeAt wr W6 RX WX g cap p.length W run (.slice none 0 0) 0 from ⟨T_R, T_W, T_D, World.ownsRow_nil _ _ _ _, T_L, T_N⟩)
            clear T_R T_W T_D T_L T_N hW6 hmk
            obtain ⟨j0, hj, hy0, hy1, hy2⟩ := info_parts info_intK
            go_wp2
            go_loopw [69] (fun x wq => ∃ (k : Nat) (v : Value), x = .int .i64 k ∧ k ≤ W.length ∧ MadeAt wr wq RX WX g cap p.length W run v k) (fun x _ => W.length - (intOf x).toNat)
            case atStart => exact ⟨0, _, rfl, by omega, HM.out⟩
            case round =>
              obtain ⟨k, v, rfl, hk, hm⟩ := hrel
              have HMA := hid hm
              obtain ⟨wz, rfl⟩ : ∃ wz : World, wz = wr := ⟨_, rfl⟩
              by_cases hlt4 : k < W.length
              · have r2 : wz.cell? ⟨RX, 2, none⟩ = some v := hm.row.cellv 2 rfl
                have rl := hm.row.lt; have rf := hm.row.frz 2
                clear hm
                go_wp2_with (at_builtin; go_loud (refine wpList_append_own_at _ rfl _ _ 24 rfl _ 3 j0 _ 1 8 Tryz.underlying24 hj hy0 hy1 hy2 rfl (by decide) v k ((List.replicate k (-1 : Int)).map (Value.int .i64)) rfl (ownsZ_new HMA.out.own ((Mod.refl _ _).alloc _)) ⟨wz.heap.size, 0, none⟩ 1 1 [.int .i64 (-1)] rfl rfl ?hn ?h1 ?h63 ?hby ?hba ?_))
                case hn => first | exact one_newB wz _ _ rfl | exact fun j u hj => hj
                case h1 => intro u hu; simp at hu; subst hu; rfl
                case h63 => unfold maxLen; omega
                case hby => omega
                case hba => have := HMA.out.new'.size; simp; omega
                intro o4 w4 r4 g4 hne hob
                obtain ⟨sg, sc, rfl⟩ : ∃ sg sc, o4 = .slice sg (k + 1) sc := by
                  rcases r4.2 with ⟨e, -⟩ | ⟨g9, cap9, cur9, e, -⟩
                  · exact (hne e).elim
                  · exact ⟨_, _, e⟩
                obtain ⟨hP, hq⟩ := HMA.out.push (by simpa only [List.map_replicate] using r4) g4
                have HPP := hid hP
                have q2 : w4.cell? ⟨RX, 2, none⟩ = some v := hq.cellv 2 rfl
                have ql := hq.lt; have qf := hq.frz 2
                clear hP r4 g4 hq hne hob r2 rl rf
                go_wp2
                exact ⟨⟨k + 1, _, by simp, by omega, HPP.out⟩, by simp [intOf]; omega⟩
              · obtain rfl : k = W.length := by omega
                obtain ⟨GB, gc, hRA, hRT⟩ := HMA.out.ref l1 hW hbc r1
                have HRA := hid hRA; have HRT := hid hRT
                have N9 := hid hm.new'
                clear hm hRA hRT
                go_wp2
                go_ret2
                exact .inr ⟨HEE.out, RX, WX, cap, g, gc, GB, rfl, HRA.out, N9.out, HRT.out⟩
end Go.Proofs.YtnhgichiedninaaGreatDoor
