/-
  Several texts in one, in their build order. The walk of New (package web) when something is wrong. Conditions: the texts lie as told; the field is one. A generic function of the library laid at this program, in plain words, written by the kit's tool. No condition.
-/
import Derived.Test.YtnhgichiedninaaGreatDoorM34
import Derived.Shelf.SlGeneric
import Derived.Ground.SlsfProg
import Derived.Shelf.SlSortCmp.WholeK
import Derived.Test.YtnhgichiedninaaGreatDoorProg
namespace Go.Proofs.YtnhgichiedninaaGreatDoor
set_option linter.unusedSimpArgs false
set_option linter.unusedVariables false
open Go.RowKit Go.Shelf

/-- What New answers. -/
def newE (p : List ByteArray) (run : Int) : Int := if p.all validU = false then 1 else if run < 1 ∨ 16 < run then 7 else if p.length < 1 ∨ 20 < p.length then 11 else if (List.range p.length).any (dupIn p) then 6 else 0
set_option maxRecDepth 100000 in
set_option maxHeartbeats 8000000 in
theorem cnew_no (a : Option Addr) (cp : Nat) (p : List ByteArray) (n : Nat) (s : ByteArray) (run : Int) (w : World) (h : StrsAt w a cp p) (hn : n ≤ 4096) (hf : FieldOf n s.data.toList) (hno : newE p run ≠ 0) :
    Calls Tryz.prog 8 #[.slice a p.length cp, .int .i64 n, .string s, .int .i64 run] w fun e w' => e = .returned (.tuple #[.pointer none, .int .i64 (newE p run)]) ∧ New w w' := by
  have HCO := hid (conU_any a cp p w h)
  have HBV := hid (bvalid_ok n s w hf hn)
  have hpc := h.room; have hpm := h.cap
  unfold maxLen at hpm
  unfold newE at hno ⊢
  by_cases g1 : p.all validU = false
  · rw [if_pos g1]
    rw [g1] at HCO
    clear h hno g1
    go_enter Tryz.func8, Tryz.ntmps8
    go_wp2_with (first | (go_at_call 31; refine HCO.out.mono ?_; rintro e w1 ⟨rfl, rfl⟩) | fail)
    go_wp2
    exact bodyPost_ret (v := .tuple #[.pointer none, .int .i64 1]) (by simp [results, Tryz.results8, go_sem]) rfl ⟨rfl, Mod.refl _ _⟩
  rw [if_neg g1] at hno ⊢
  have g1' : p.all validU = true := by simpa using g1
  rw [g1'] at HCO
  clear g1
  by_cases g2 : run < 1 ∨ 16 < run
  · rw [if_pos g2]
    clear h hno g1'
    rcases g2 with g2 | g2
    all_goals
      go_enter Tryz.func8, Tryz.ntmps8
      go_wp2_with (first | (go_at_call 31; refine HCO.out.mono ?_; rintro e w1 ⟨rfl, rfl⟩) | fail)
      refine HBV.out.mono ?_
      rintro e w1 ⟨rfl, n1⟩
      go_wp2
      exact bodyPost_ret (v := .tuple #[.pointer none, .int .i64 7]) (by simp [results, Tryz.results8, go_sem]) rfl ⟨rfl, n1⟩
  rw [if_neg g2] at hno ⊢
  by_cases g3 : p.length < 1 ∨ 20 < p.length
  · rw [if_pos g3]
    clear h hno g1'
    rcases g3 with g3 | g3
    all_goals
      go_enter Tryz.func8, Tryz.ntmps8
      go_wp2_with (first | (go_at_call 31; refine HCO.out.mono ?_; rintro e w1 ⟨rfl, rfl⟩) | fail)
      refine HBV.out.mono ?_
      rintro e w1 ⟨rfl, n1⟩
      go_wp2
      exact bodyPost_ret (v := .tuple #[.pointer none, .int .i64 11]) (by simp [results, Tryz.results8, go_sem]) rfl ⟨rfl, n1⟩
  rw [if_neg g3] at hno ⊢
  by_cases g4 : (List.range p.length).any (dupIn p) = true
  · rw [if_pos g4]
    obtain ⟨b1, o1, rfl, hb1, hc1⟩ := h.get (by omega)
    have HC1 := hid hc1
    have HD : Hid (∃ k, k < p.length ∧ dupIn p k = true) := hid (by
      rw [List.any_eq_true] at g4
      obtain ⟨k, hk, hd⟩ := g4
      exact ⟨k, List.mem_range.1 hk, hd⟩)
    obtain ⟨i0, hi, hz0, hz1, hz2⟩ := info_parts info_ptr
    clear h hc1 hno g1' g4
    go_enter Tryz.func8, Tryz.ntmps8
    go_wp2_with (first | (go_at_call 31; refine HCO.out.mono ?_; rintro e w1 ⟨rfl, rfl⟩) | fail)
    refine HBV.out.mono ?_
    rintro e w1 ⟨rfl, n1⟩
    have N1 := hid n1
    clear n1
    have hmm := @run_makeMap Tryz.prog
    go_wp2_with fail
    have HN0 : Hid (NewAt w ((w1.alloc (.map #[] 0)).alloc (.cells #[.slice none 0 0, .int .i64 n, .string s, .int .i64 run, .int .i64 0, .map (some w1.heap.size)] 78)) (w1.heap.size + 1) w1.heap.size n s run (.slice none 0 0) []) := hid
      ⟨Blk.newAt (by simp), World.ownsRow_nil _ _ _ _, by simp, by simp, by simp, (MapL.made w1 _ rfl).new ((Mod.refl _ _).alloc _), ⟨by have := N1.out.size; omega, N1.out.size⟩, (N1.out.alloc _).alloc _⟩
    clear hmm
    go_loopw [59] (fun x wr => ∃ (k : Nat) (v : Value) (ps : List Nat), x = .int .i64 k ∧ k ≤ p.length ∧ ps.length = k ∧ (∀ j, j < k → dupIn p j = false) ∧ NewAt w wr (w1.heap.size + 1) w1.heap.size n s run v ps) (fun x _ => p.length - (intOf x).toNat)
    case atStart => exact ⟨0, _, _, rfl, by omega, rfl, by intros; omega, HN0.out⟩
    case round =>
      obtain ⟨k, v, ps, rfl, hk, hps, hb, hA⟩ := hrel
      have HA := hid hA
      have HB := hid hb
      clear hb
      by_cases hlt : k < p.length
      · have g0 := New.cellv hA.new' (HC1.out k hlt)
        have gl : b1 < wr.heap.size := World.block_lt_of_cell? _ _ g0
        have HCT := Tryz.slices_Contains_string b1 o1 k cp p p[k] wr (by omega) (by omega) (fun j hj => by rw [List.getD_eq_getElem?_getD, List.getElem?_eq_getElem hj]; exact New.cellv hA.new' (HC1.out j hj))
        have hde : dupIn p k = Lib.containsS (p.take k) p[k] := by
          unfold dupIn
          rw [List.getElem?_eq_getElem hlt]
        rw [← hde] at HCT
        clear hde
        cases hdk : dupIn p k with
        | true =>
          rw [hdk] at HCT
          have HCT := hid HCT
          obtain ⟨t, ht⟩ : ∃ t, t = p[k] := ⟨_, rfl⟩
          rw [← ht] at g0 HCT
          clear hA hdk ht
          go_wp2_with fail
          refine HCT.out.mono ?_
          rintro e w2 ⟨rfl, rfl⟩
          go_wp2
          exact bodyPost_ret (v := .tuple #[.pointer none, .int .i64 6]) (by simp [results, Tryz.results8, go_sem]) rfl ⟨rfl, HA.out.new'⟩
        | false =>
          rw [hdk] at HCT
          have HCT := hid HCT
          have r0 : wr.cell? ⟨w1.heap.size + 1, 0, none⟩ = some v := hA.row.cellv 0 rfl
          have rl := hA.row.lt; have rf := hA.row.frz 0
          obtain ⟨t, ht⟩ : ∃ t, t = p[k] := ⟨_, rfl⟩
          rw [← ht] at g0 HCT
          have HDK := hid hdk
          clear hA hdk ht
          go_wp2_with fail
          refine HCT.out.mono ?_
          rintro e w2 ⟨rfl, rfl⟩
          go_wp2_with (at_builtin; refine wpList_append_own_at _ rfl _ _ 76 rfl w.heap.size 80 i0 _ 1 8 Tryz.underlying76 hi hz0 hz1 hz2 rfl (by decide) v k (ps.map ptrV) rfl ?ow ⟨w2.heap.size + 1, 0, none⟩ 1 1 [ptrV w2.heap.size] rfl rfl ?hn ?h1 ?h63 ?hby ?hba ?_)
          case ow =>
            have := HA.out.own
            rw [hps] at this
            exact ownsZ_new this (((Mod.refl _ _).alloc _).alloc _)
          case hn =>
            intro j u hj
            have hadd : ∀ i, (⟨w2.heap.size + 1, 0, none⟩ : Addr).add i = ⟨w2.heap.size + 1, 0 + i, none⟩ := fun i => by unfold Addr.add; split <;> simp_all
            rw [hadd]
            match j, hj with
            | 0, hj => simp at hj; subst hj; exact (Blk.newAt (by simp)).cellv 0 rfl
          case h1 => intro u hu; simp at hu; subst hu; rfl
          case h63 => unfold maxLen; omega
          case hby => omega
          case hba => have := HA.out.new'.size; simp; omega
          intro o4 w4 r4 g4 hne hob
          obtain ⟨sg, sc, rfl⟩ : ∃ sg sc, o4 = .slice sg (k + 1) sc := by
            rcases r4.2 with ⟨e, -⟩ | ⟨g, cap, cur, e, -⟩
            · exact absurd e hne
            · exact ⟨_, _, e⟩
          have hP := HA.out.push hps r4 g4
          have HP := hid hP
          have hq := HA.out.rowAt g4
          have q0 : w4.cell? ⟨w1.heap.size + 1, 0, none⟩ = some v := hq.cellv 0 rfl
          have q1 := hq.lt; have q2 := hq.frz 0
          clear hP r4 g4 hq
          go_wp2
          refine ⟨⟨k + 1, _, ps ++ [w2.heap.size], rfl, by omega, by simp [hps], fun j hj => ?_, HP.out⟩, ?_⟩
          · rcases Nat.lt_succ_iff_lt_or_eq.1 hj with q | q
            · exact HB.out j q
            · rw [q]; exact HDK.out
          · simp [intOf]; omega
      · exfalso
        obtain ⟨j, hj, hd⟩ := HD.out
        rw [HB.out j (by omega)] at hd
        cases hd
  · rw [if_neg g4] at hno
    exact absurd rfl hno
theorem new_ok {p : List ByteArray} {run : Int} (h : newE p run = 0) : p.all validU = true ∧ (1 ≤ run ∧ run ≤ 16) ∧ (1 ≤ p.length ∧ p.length ≤ 20) ∧ ∀ k, k < p.length → dupIn p k = false := by
  unfold newE at h
  by_cases g1 : p.all validU = false
  · rw [if_pos g1] at h; cases h
  rw [if_neg g1] at h
  by_cases g2 : run < 1 ∨ 16 < run
  · rw [if_pos g2] at h; cases h
  rw [if_neg g2] at h
  by_cases g3 : p.length < 1 ∨ 20 < p.length
  · rw [if_pos g3] at h; cases h
  rw [if_neg g3] at h
  by_cases g4 : (List.range p.length).any (dupIn p) = true
  · rw [if_pos g4] at h; cases h
  refine ⟨by simpa using g1, by omega, by omega, fun k hk => ?_⟩
  cases hd : dupIn p k with
  | false => rfl
  | true => exact absurd (List.any_eq_true.2 ⟨k, List.mem_range.2 hk, hd⟩) g4
end Go.Proofs.YtnhgichiedninaaGreatDoor

namespace Go.Proofs
open Go.Shelf
def Tryz.laysSF_ren : Go.Shelf.Ren := ⟨fun | 6 => 40 | 15 => 80 | 14 => 79 | 28 => 116 | 29 => 117 | 20 => 108 | 21 => 109 | 22 => 110 | 23 => 111 | 24 => 112 | 25 => 113 | 26 => 114 | 27 => 115 | 46 => 148 | 47 => 149 | 48 => 150 | 49 => 151 | 50 => 152 | 57 => 171 | n => n, fun | 22 => 38 | 24 => 34 | 25 => 90 | 3 => 3 | 39 => 138 | 0 => 0 | 53 => 173 | 55 => 175 | 4 => 4 | 46 => 167 | 45 => 166 | 50 => 99 | 5 => 5 | 9 => 9 | 66 => 211 | 70 => 215 | 76 => 235 | 77 => 236 | n => n, fun | n => n⟩
theorem Tryz.laysSF : Go.Proofs.SlLaysF0.n6 Tryz.prog Tryz.laysSF_ren := {
  mixed := by kernel_rfl
  f6 := ⟨Tryz.f40.name, by decide, Tryz.func40.trans (congrArg some (by kernel_rfl))⟩
  f14 := ⟨Tryz.f79.name, by decide, Tryz.func79.trans (congrArg some (by kernel_rfl))⟩
  f15 := Tryz.func80.trans (congrArg some (by kernel_rfl))
  f20 := ⟨Tryz.f108.name, by decide, Tryz.func108.trans (congrArg some (by kernel_rfl))⟩
  f21 := ⟨Tryz.f109.name, by decide, Tryz.func109.trans (congrArg some (by kernel_rfl))⟩
  f22 := ⟨Tryz.f110.name, by decide, Tryz.func110.trans (congrArg some (by kernel_rfl))⟩
  f23 := ⟨Tryz.f111.name, by decide, Tryz.func111.trans (congrArg some (by kernel_rfl))⟩
  f24 := ⟨Tryz.f112.name, by decide, Tryz.func112.trans (congrArg some (by kernel_rfl))⟩
  f25 := ⟨Tryz.f113.name, by decide, Tryz.func113.trans (congrArg some (by kernel_rfl))⟩
  f26 := ⟨Tryz.f114.name, by decide, Tryz.func114.trans (congrArg some (by kernel_rfl))⟩
  f27 := ⟨Tryz.f115.name, by decide, Tryz.func115.trans (congrArg some (by kernel_rfl))⟩
  f28 := Tryz.func116.trans (congrArg some (by kernel_rfl))
  f29 := Tryz.func117.trans (congrArg some (by kernel_rfl))
  f46 := ⟨Tryz.f148.name, by decide, Tryz.func148.trans (congrArg some (by kernel_rfl))⟩
  f47 := Tryz.func149.trans (congrArg some (by kernel_rfl))
  f48 := Tryz.func150.trans (congrArg some (by kernel_rfl))
  f49 := ⟨Tryz.f151.name, by decide, Tryz.func151.trans (congrArg some (by kernel_rfl))⟩
  f50 := ⟨Tryz.f152.name, by decide, Tryz.func152.trans (congrArg some (by kernel_rfl))⟩
  f57 := ⟨Tryz.f171.name, by decide, Tryz.func171.trans (congrArg some (by kernel_rfl))⟩
  t0 := Tryz.underlying0
  a0 := Tryz.isAgg0
  z0 := Tryz.sizeOf0
  v0 := Tryz.zeroValue0
  t3 := Tryz.underlying3
  a3 := Tryz.isAgg3
  z3 := Tryz.sizeOf3
  v3 := Tryz.zeroValue3
  t4 := Tryz.underlying4
  a4 := Tryz.isAgg4
  z4 := Tryz.sizeOf4
  v4 := Tryz.zeroValue4
  t5 := Tryz.underlying5
  a5 := Tryz.isAgg5
  z5 := Tryz.sizeOf5
  v5 := Tryz.zeroValue5
  t9 := Tryz.underlying9
  a9 := Tryz.isAgg9
  z9 := Tryz.sizeOf9
  v9 := Tryz.zeroValue9
  t22 := Tryz.underlying38
  a22 := Tryz.isAgg38
  z22 := Tryz.sizeOf38
  v22 := Tryz.zeroValue38
  t25 := Tryz.underlying90
  a25 := Tryz.isAgg90
  z25 := Tryz.sizeOf90
  v25 := Tryz.zeroValue90
  t39 := Tryz.underlying138
  a39 := Tryz.isAgg138
  z39 := Tryz.sizeOf138
  v39 := Tryz.zeroValue138
  t45 := Tryz.underlying166
  a45 := Tryz.isAgg166
  z45 := Tryz.sizeOf166
  v45 := Tryz.zeroValue166
  t46 := Tryz.underlying167
  a46 := Tryz.isAgg167
  z46 := Tryz.sizeOf167
  v46 := Tryz.zeroValue167
  t50 := Tryz.underlying99
  a50 := Tryz.isAgg99
  z50 := Tryz.sizeOf99
  v50 := Tryz.zeroValue99
  t53 := Tryz.underlying173
  a53 := Tryz.isAgg173
  z53 := Tryz.sizeOf173
  v53 := Tryz.zeroValue173
  t55 := Tryz.underlying175
  a55 := Tryz.isAgg175
  z55 := Tryz.sizeOf175
  v55 := Tryz.zeroValue175
  t66 := Tryz.underlying211
  a66 := Tryz.isAgg211
  z66 := Tryz.sizeOf211
  v66 := Tryz.zeroValue211
  t70 := Tryz.underlying215
  a70 := Tryz.isAgg215
  z70 := Tryz.sizeOf215
  v70 := Tryz.zeroValue215
  t76 := Tryz.underlying235
  a76 := Tryz.isAgg235
  z76 := Tryz.sizeOf235
  v76 := Tryz.zeroValue235
  t77 := Tryz.underlying236
  a77 := Tryz.isAgg236
  z77 := Tryz.sizeOf236
  v77 := Tryz.zeroValue236 }
end Go.Proofs
