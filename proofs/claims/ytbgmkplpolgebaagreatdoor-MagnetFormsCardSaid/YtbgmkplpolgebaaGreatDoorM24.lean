/-
  Several texts in one, in their build order. The walks of need, caught, number (package addr). Conditions: the text is small; the library's variables are as laid. The walks of the two families' read (package addr). Conditions: the text is small; the library's variables are as laid. The walk of six's read (package addr). Conditions: the text is small; the library's variables are as laid.
-/
import Derived.Test.YtbgmkplpolgebaaGreatDoorM23
import Derived.Test.YtbgmkplpolgebaaGreatDoorM2
import Derived.Defers
import Derived.Recover
import Derived.Test.YtbgmkplpolgebaaGreatDoorM10
import Derived.Test.YtbgmkplpolgebaaGreatDoorM20
import Derived.Test.YtbgmkplpolgebaaGreatDoorM11
namespace Go.Proofs.YtbgmkplpolgebaaGreatDoor
set_option linter.unusedSimpArgs false
set_option linter.unusedVariables false
open Go.RowKit Go.Shelf

/-- What a call stops with. -/
def toldA (k : Int) : List PanicEntry := [{ v := .iface 189 (.int .i64 k), recovered := false }]
theorem aneed_no (k : Int) (w : World) : Calls Tryz.prog 130 #[.bool false, .int .i64 k] w fun e w' => e = .panicked (toldA k) ∧ w = w' := by
  go_enter Tryz.func130, Tryz.ntmps130
  go_wp2
  exact ⟨rfl, rfl, rfl⟩
theorem aneed_yes (k : Int) (w : World) : Calls Tryz.prog 130 #[.bool true, .int .i64 k] w fun e w' => e = .returned (.tuple #[]) ∧ w = w' := by
  go_enter Tryz.func130, Tryz.ntmps130
  go_wp2
  go_end0
  exact ⟨rfl, rfl⟩
theorem acaught_idle (p : Addr) (w : World) :
    CallsD Tryz.prog 128 #[.pointer (some p)] .returning w fun e u' w' => e = .returned (.tuple #[]) ∧ u' = .returning ∧ w' = w := by
  refine callsD_of_wpS Tryz.func128 rfl fun c₀ cs hu => ?_
  apply wpS_seq
  apply wpS_region
  simp [wpOpsS, go_sem, recoverD, hu, Tryz.ntmps128, Exit.thenS]
  apply wpS_seq
  refine wpS_of_wp ?_
  go_wp2
  refine wpS_cond (t := false) (by simp [Act.eval, Array.replicate]) ?_
  simp only [Bool.false_eq_true, if_false]
  refine wpS_of_wp (wp_skip ?_)
  cases c₀
  simp_all [bodyPostS, results, Tryz.results128]
set_option maxRecDepth 100000 in
set_option maxHeartbeats 1000000 in
theorem acaught_told (q : Nat) (k : Int) (w : World) (hq : Blk w q #[.int .i64 0] 28) :
    CallsD Tryz.prog 128 #[.pointer (some ⟨q, 0, none⟩)] (.panicking (toldA k)) w fun e u' w' =>
      e = .returned (.tuple #[]) ∧ u' = .panicking [{ v := .iface 189 (.int .i64 k), recovered := true }] ∧ Blk w' q #[.int .i64 k] 28 ∧ Mod (fun j => j = q) w w' := by
  obtain ⟨q1, q2, q3⟩ := hq.one
  have HQ := hid hq
  clear hq
  unfold toldA
  have hta : ∀ (x : Int) (w : World), (Instr.typeAssert (.iface 189 (.int .i64 x)) 20 189 true).run Tryz.prog w = .ok (.tuple #[.int .i64 x, .bool true]) w := fun _ _ => by simp [Instr.typeAssert, run_underlying Tryz.underlying189, Result.andThen]
  refine callsD_of_wpS Tryz.func128 rfl fun c₀ cs hu => ?_
  apply wpS_seq
  apply wpS_region
  simp [wpOpsS, go_sem, recoverD, hu, Tryz.ntmps128, Exit.thenS, show Array.replicate 18 undef = #[undef, undef, undef, undef, undef, undef, undef, undef, undef, undef, undef, undef, undef, undef, undef, undef, undef, undef] from rfl, show Array.replicate 19 undef = #[undef, undef, undef, undef, undef, undef, undef, undef, undef, undef, undef, undef, undef, undef, undef, undef, undef, undef, undef] from rfl]
  apply wpS_seq
  refine wpS_of_wp ?_
  go_wp2
  refine wpS_cond (t := true) (by simp [Act.eval, Array.replicate]) ?_
  simp only [if_true]
  refine wpS_of_wp ?_
  go_wp2
  refine ⟨rfl, .panicking [{ v := .iface 189 (.int .i64 k), recovered := true }], ?_, .tuple #[], by simp [results, Tryz.results128], rfl, rfl, ?_, ?_⟩
  · first | rfl | (simp; done) | (cases c₀; simp_all)
  · apply Blk.row
    · repeat (first | with_reducible exact HQ.out | (with_reducible apply Blk.newAt; (simp; done)) | with_reducible apply Blk.alloc | with_reducible apply Blk.drew | with_reducible apply Blk.drewN | with_reducible apply Blk.set | (with_reducible apply Blk.other; · first | (simp; done) | (simp; omega) | omega) | (with_reducible apply Blk.putObj; · first | (simp; done) | (simp; omega) | omega))
    · rfl
  · repeat (first | with_reducible exact Mod.refl _ _ | with_reducible refine Mod.alloc ?_ _ | with_reducible refine Mod.drew ?_ | with_reducible refine Mod.drewN ?_ _ | (with_reducible refine Mod.set ?_ _ _ (by first | exact .inl rfl | (right; omega) | (right; simp; done) | (right; simp; omega) | (left; omega) | (left; simp; done) | (left; simp; omega))) | (with_reducible refine Mod.putObj ?_ _ _ (by first | exact .inl rfl | (right; omega) | (right; simp; done) | (right; simp; omega) | (left; omega) | (left; simp; done) | (left; simp; omega))))
def numE : Option Nat → Ending
  | some u => .returned (.int .i64 u)
  | none => .panicked (toldA 2)
theorem numA_no {b most : Nat} {s : List UInt8} (h : puP b s = none) : numA b most s = none := by unfold numA; rw [h]
theorem numA_big {b most u : Nat} {s : List UInt8} (h : puP b s = some u) (h2 : ¬ u ≤ most) : numA b most s = none := by
  unfold numA; rw [h]; simp only; rw [if_neg (fun q => h2 q.1)]
theorem numA_odd {b most u : Nat} {s : List UInt8} (h : puP b s = some u) (h2 : fmtU b u ≠ s) : numA b most s = none := by
  unfold numA; rw [h]; simp only; rw [if_neg (fun q => h2 q.2)]
theorem numA_yes {b most u : Nat} {s : List UInt8} (h : puP b s = some u) (h1 : u ≤ most) (h2 : fmtU b u = s) : numA b most s = some u := by
  unfold numA; rw [h]; simp only; rw [if_pos ⟨h1, h2⟩]
theorem toL_eq {a b : ByteArray} : (a.toList == b.toList) = decide (a.data.toList = b.data.toList) := by
  rw [ByteArray.toList_eq, ByteArray.toList_eq]
  rw [Bool.eq_iff_iff, beq_iff_eq, decide_eq_true_eq]
set_option maxRecDepth 100000 in
set_option maxHeartbeats 4000000 in
theorem number_any (b most : Nat) (hb : b = 10 ∨ b = 16) (hm : most ≤ 65535) (t : ByteArray) (w : World) (hs : t.size ≤ 70000) (hv : VarP w) :
    Calls Tryz.prog 131 #[.string t, .int .i64 b, .int .i64 most] w fun e w' => e = numE (numA b most t.data.toList) ∧ New w w' := by
  have HB := hid (pu_any b hb t w hs hv)
  have HF := hid (fun (u : Nat) (hu : u ≤ 65535) W (n : New w W) => fmtu_any b u hb hu W (hv.new n))
  obtain ⟨R, hR⟩ : ∃ R, R = numA b most t.data.toList := ⟨_, rfl⟩
  rw [← hR]
  have HR := hid hR
  clear hv hR
  go_enter Tryz.func131, Tryz.ntmps131
  go_wp2_with fail
  refine HB.out.mono ?_
  rintro e w1 ⟨⟨x, E, rfl, h0, h1, hr⟩, n1⟩
  have N1 := hid n1
  clear n1 HB
  rcases hr with ⟨u, hr, rfl, rfl⟩ | ⟨hr, tp, p, rfl⟩
  · have HP := hid hr
    by_cases hle : u ≤ most
    · have hleI : (u : Int) ≤ (most : Int) := by omega
      have hd : decide ((u : Int) ≤ (most : Int)) = true := decide_eq_true hleI
      by_cases he : fmtU b u = t.data.toList
      · have HX : Hid (R = some u) := hid (by rw [HR.out]; exact numA_yes hr hle he)
        have heq : ((⟨(fmtU b u).toArray⟩ : ByteArray).toList == t.toList) = true := by rw [toL_eq]; exact decide_eq_true he
        obtain ⟨F, hF⟩ : ∃ F : ByteArray, F = ⟨(fmtU b u).toArray⟩ := ⟨_, rfl⟩
        have HFF := hid (fun W n => HF.out u (by omega) W n)
        rw [← hF] at heq HFF
        clear hr he hF HF HR
        go_wp2_with fail
        refine (HFF.out _ N1.out).mono ?_
        rintro e w2 ⟨rfl, n2⟩
        have N2 := hid (N1.out.trans n2)
        clear n2
        go_wp2_with fail
        refine (aneed_yes 2 _).mono ?_
        rintro e w3 ⟨rfl, rfl⟩
        go_wp2
        go_ret
        exact ⟨by rw [HX.out]; rfl, N2.out⟩
      · have HX : Hid (R = none) := hid (by rw [HR.out]; exact numA_odd hr he)
        have heq : ((⟨(fmtU b u).toArray⟩ : ByteArray).toList == t.toList) = false := by rw [toL_eq]; exact decide_eq_false he
        obtain ⟨F, hF⟩ : ∃ F : ByteArray, F = ⟨(fmtU b u).toArray⟩ := ⟨_, rfl⟩
        have HFF := hid (fun W n => HF.out u (by omega) W n)
        rw [← hF] at heq HFF
        clear hr he hF HF HR
        go_wp2_with fail
        refine (HFF.out _ N1.out).mono ?_
        rintro e w2 ⟨rfl, n2⟩
        have N2 := hid (N1.out.trans n2)
        clear n2
        go_wp2_with fail
        refine (aneed_no 2 _).mono ?_
        rintro e w3 ⟨rfl, rfl⟩
        go_wp2
        exact ⟨rfl, by rw [HX.out]; rfl, N2.out⟩
    · have hleI : ¬ (u : Int) ≤ (most : Int) := by omega
      have hd : decide ((u : Int) ≤ (most : Int)) = false := decide_eq_false hleI
      have HX : Hid (R = none) := hid (by rw [HR.out]; exact numA_big hr hle)
      clear hr HF HR
      go_wp2_with fail
      refine (aneed_no 2 _).mono ?_
      rintro e w3 ⟨rfl, rfl⟩
      go_wp2
      exact ⟨rfl, by rw [HX.out]; rfl, N1.out⟩
  · have HX : Hid (R = none) := hid (by rw [HR.out]; exact numA_no hr)
    clear hr HF HR
    go_wp2_with fail
    refine (aneed_no 2 _).mono ?_
    rintro e w3 ⟨rfl, rfl⟩
    go_wp2
    exact ⟨rfl, by rw [HX.out]; rfl, N1.out⟩
end Go.Proofs.YtbgmkplpolgebaaGreatDoor

namespace Go.Proofs.YtbgmkplpolgebaaGreatDoor
set_option linter.unusedSimpArgs false
set_option linter.unusedVariables false
open Go.RowKit Go.Shelf

def ipE : Option (List UInt8) → Ending
  | some l => .returned (.string (mkB l))
  | none => .panicked (toldA 2)
theorem take_next {α : Type} {l : List α} {k : Nat} (h : k < l.length) : l.take (k + 1) = l.take k ++ [l[k]] := List.take_succ_eq_append_getElem h
theorem take_all {α : Type} {l : List α} {k : Nat} (h : k < l.length) : l = l.take k ++ l[k] :: l.drop (k + 1) := by
  rw [List.getElem_cons_drop, List.take_append_drop]
theorem pcs_size (c : UInt8) (s : List UInt8) {k : Nat} (h : k < (pieces [] c s).length) : (mkB (pieces [] c s)[k]).size ≤ s.length + 1 := by
  have := piece_le [] (by simp) c s (pieces [] c s)[k] (List.getElem_mem h)
  have e : (mkB (pieces [] c s)[k]).size = ((pieces [] c s)[k]).length := size_list _
  omega
set_option maxRecDepth 100000 in
set_option maxHeartbeats 8000000 in
theorem read4_any (s : ByteArray) (w : World) (hs : s.size ≤ 65536) (hv : VarP w) : Calls Tryz.prog 236 #[.agg #[], .string s] w fun e w' => e = ipE (read4 s.data.toList) ∧ New w w' := by
  obtain ⟨i0, hi, hz0, hz1, hz2⟩ := info_parts info_byte
  have hlen : s.data.toList.length = s.size := by rw [Array.length_toList]; rfl
  have HSP := hid (fun W (n : New w W) => split_c 46 s W (hv.new n) (by omega))
  have HV := hid (fun W (n : New w W) => hv.new n)
  obtain ⟨R, hR⟩ : ∃ R, R = read4 s.data.toList := ⟨_, rfl⟩
  rw [← hR]
  have hPL := pieces_len [] 46 s.data.toList
  have hcl := List.count_le_length (l := s.data.toList) (a := 46)
  obtain ⟨P, hP⟩ : ∃ P, P = pieces [] 46 s.data.toList := ⟨_, rfl⟩
  have HSZ : Hid (∀ k (h : k < P.length), (mkB P[k]).size ≤ 65537) := hid (fun k h => by subst hP; have := pcs_size 46 s.data.toList h; omega)
  unfold read4 at hR
  rw [← hP] at hR HSP hPL
  have HR := hid hR
  have hmap : (P.map mkB).length = P.length := List.length_map _
  have hPle : P.length ≤ 65537 := by omega
  have hPpos : 0 < P.length := by omega
  clear hR hP hv hPL hcl
  go_enter Tryz.func236, Tryz.ntmps236
  go_wp2_with fail
  refine (HSP.out _ (by first | exact Mod.refl _ _ | exact (Mod.refl _ _).alloc _)).mono ?_
  rintro e w1 ⟨rfl, hst, n1⟩
  simp only [World.size_alloc] at hst
  have HS1 := hid hst
  have N1 : Hid (New w w1) := hid (by first | exact n1 | exact ((Mod.refl _ _).alloc _).trans n1)
  clear hst n1 HSP
  rw [hmap]
  go_wp2_with fail
  go_loopw [11, 5] (fun i o wr => ∃ (k : Nat) (v : Value) (N : List Nat), i = .int .i64 k ∧ v = o ∧ k ≤ P.length ∧ numsA 10 255 (P.take k) = some N ∧ N.length = k ∧ OwnY wr w1.heap.size v (N.map UInt8.ofNat) ∧ New w1 wr) (fun i _ _ => P.length - (intOf i).toNat)
  case atStart => exact ⟨0, _, [], rfl, rfl, by omega, by rw [List.take_zero]; rfl, rfl, OwnY.nil _ _, Mod.refl _ _⟩
  case round =>
    obtain ⟨k, v, N, rfl, rfl, hk, hnum, hNk, ho, hn⟩ := hrel
    have HO := hid ho; have HN := hid hn; have HNUM := hid hnum
    clear ho hn hnum
    by_cases hlt : k < P.length
    · have hltI : (k : Int) < (P.length : Int) := by omega
      have HST := hid (HS1.out.new HN.out)
      obtain ⟨bb, oo, hbe, hbb, hcc⟩ := HST.out.get (by rw [hmap]; omega)
      injection hbe with hbe
      injection hbe with hb1 hb2
      subst hb1 hb2
      have g0 := hcc k (by rw [hmap]; exact hlt)
      rw [show (P.map mkB)[k]'(by rw [hmap]; exact hlt) = mkB P[k] from List.getElem_map _] at g0
      have hxs := HSZ.out k hlt
      have HNB := hid (fun W (n : New wr W) => number_any 10 255 (.inl rfl) (by omega) (mkB P[k]) W (by omega) (HV.out W ((N1.out.trans HN.out).trans n)))
      have HALL := hid (take_all hlt)
      have HTK := hid (take_next hlt)
      rw [show (mkB P[k]).data.toList = P[k] from rfl] at HNB
      obtain ⟨X, hX⟩ : ∃ X, X = P[k] := ⟨_, rfl⟩
      rw [← hX] at g0 hxs HNB HALL HTK
      rw [Nat.zero_add] at g0
      clear hcc hX
      cases hna : numA 10 255 X with
      | none =>
        rw [hna] at HNB
        have HRN : Hid (R = none) := hid (by rw [HR.out, HALL.out, numsA_bad HNUM.out hna])
        clear hna
        go_wp2_with fail
        refine (HNB.out _ (Mod.refl _ _)).mono ?_
        rintro e w3 ⟨rfl, n3⟩
        have N3 := hid ((N1.out.trans HN.out).trans n3)
        clear n3
        unfold numE
        go_wp2
        exact ⟨rfl, by rw [HRN.out]; rfl, N3.out⟩
      | some u =>
        rw [hna] at HNB
        have HNN := hid (numsA_next HNUM.out hna)
        rw [← HTK.out] at HNN
        have hu := (numA_some hna).1
        have hw : IntKind.u8.wrap (u : Int) = ((UInt8.ofNat u).toNat : Int) := by
          rw [IntWalk.u8_in _ (by omega), UInt8.toNat_ofNat']
          omega
        obtain ⟨D, hD⟩ : ∃ D, D = UInt8.ofNat u := ⟨_, rfl⟩
        rw [← hD] at hw
        have HD := hid hD
        clear hna hD
        go_wp2_with fail
        refine (HNB.out _ (Mod.refl _ _)).mono ?_
        rintro e w3 ⟨rfl, n3⟩
        have N3 := hid (HN.out.trans n3)
        have HO3 := hid (HO.out.new n3)
        have hs3 := n3.size
        have hs2 := HN.out.size
        clear n3
        unfold numE
        go_wp2_with (at_builtin; refine wpList_append_own_at _ rfl _ _ 42 rfl w1.heap.size 5 i0 _ 1 1 Tryz.underlying42 hi hz0 hz1 hz2 rfl (by decide) _ (N.map UInt8.ofNat).length (byV (N.map UInt8.ofNat)) rfl ?ow ⟨w3.heap.size, 0, none⟩ 1 1 [.int .u8 (D.toNat : Int)] rfl rfl ?hn ?h1 ?h63 ?hby ?hba ?_)
        case ow => exact HO3.out.new ((Mod.refl _ _).alloc _)
        case hn =>
          intro j u hj
          rw [add_none]
          match j, hj with
          | 0, hj => simp at hj; subst hj; exact (Blk.newAt (by simp)).cellv 0 rfl
        case h1 => intro u hu; simp at hu; subst hu; rfl
        case h63 => rw [List.length_map]; unfold maxLen; omega
        case hby => rw [List.length_map]; omega
        case hba => simp; omega
        intro o' w' r' g' _ _
        have r2 : w'.ownsRow w1.heap.size 5 1 o' ((N.map UInt8.ofNat).length + [D].length) (byV (N.map UInt8.ofNat) ++ byV [D]) := by rw [List.length_map, hNk]; exact r'
        have O' := hid (ownY_of (l := N.map UInt8.ofNat) [D] r2)
        have N' := hid (new_grownY (HO3.out.new ((Mod.refl _ _).alloc _)) (Nat.le_refl _) (N3.out.alloc _) g')
        clear r' g'
        go_wp2_with fail
        exact ⟨⟨k + 1, _, N ++ [u], by simp, rfl, by omega, HNN.out, by simp; omega, by rw [List.map_append, List.map_cons, List.map_nil, ← HD.out]; exact O'.out, N'.out⟩, by simp [intOf]; omega⟩
    · obtain rfl : k = P.length := by omega
      have HNA := hid (show numsA 10 255 P = some N by rw [← HNUM.out, List.take_length])
      have hNl : (N.map UInt8.ofNat).length = P.length := by rw [List.length_map, hNk]
      obtain ⟨form, hform⟩ : ∃ x, x = HO.out.form := ⟨_, rfl⟩
      clear hform
      have HT := hid (ownY_text HO.out)
      have hcv := HT.out
      rcases form with ⟨rfl, hnil⟩ | ⟨g, cap, rfl, hg1, hg2, hg3⟩
      · have : P.length = 0 := by rw [← hNl, hnil]; rfl
        omega
      · rw [hNl] at hcv
        rw [hNl]
        by_cases h4 : P.length = 4
        · have hd : ((P.length : Int) == 4) = true := by rw [beq_iff_eq]; omega
          have HRX : Hid (R = some (N.map UInt8.ofNat)) := hid (by rw [HR.out, HNA.out]; simp only; rw [if_pos (by omega)])
          rw [h4] at hcv
          go_wp2_with fail
          refine (aneed_yes 2 _).mono ?_
          rintro e w3 ⟨rfl, rfl⟩
          go_wp2
          go_ret
          exact ⟨by rw [HRX.out]; rfl, N1.out.trans HN.out⟩
        · have hd : ((P.length : Int) == 4) = false := by rw [beq_eq_false_iff_ne]; omega
          have HRX : Hid (R = none) := hid (by rw [HR.out, HNA.out]; simp only; rw [if_neg (by omega)])
          go_wp2_with fail
          refine (aneed_no 2 _).mono ?_
          rintro e w3 ⟨rfl, rfl⟩
          go_wp2
          exact ⟨rfl, by rw [HRX.out]; rfl, N1.out.trans HN.out⟩
end Go.Proofs.YtbgmkplpolgebaaGreatDoor

namespace Go.Proofs.YtbgmkplpolgebaaGreatDoor
set_option linter.unusedSimpArgs false
set_option linter.unusedVariables false
open Go.RowKit Go.Shelf

theorem read6_no {h : List UInt8} (c : ¬ (2 < h.length ∧ h.head? = some 91 ∧ h.getLast? = some 93)) : read6 h = none := by unfold read6; rw [if_neg c]
theorem read6_yes {h : List UInt8} (c : 2 < h.length ∧ h.head? = some 91 ∧ h.getLast? = some 93) : read6 h = (match numsA 16 65535 (pieces [] 58 (inner h)) with
  | none => none
  | some N => if N.length = 8 then some (unpairs N) else none) := by
  unfold read6
  rw [if_pos c]
  rfl
theorem head_at (s : ByteArray) (h : 0 < s.size) : s.data.toList.head? = some s[0] := by
  have := byte_at' s h
  rw [← List.head?_eq_getElem?] at this
  exact this
theorem last_at (s : ByteArray) (h : s.size - 1 < s.size) : s.data.toList.getLast? = some s[s.size - 1] := by
  have := byte_at' s h
  rw [List.getLast?_eq_getElem?]
  have hlen : s.data.toList.length = s.size := by rw [Array.length_toList]; rfl
  rw [hlen]
  exact this
theorem inner_ext (s : ByteArray) (h : 2 < s.size) : (s.extract 1 (s.size - 1)).data.toList = inner s.data.toList := by
  rw [ext_list]
  have hlen : s.data.toList.length = s.size := by rw [Array.length_toList]; rfl
  unfold inner
  rw [List.dropLast_eq_take, List.length_drop, hlen]
set_option maxRecDepth 100000 in
set_option maxHeartbeats 8000000 in
theorem read6_any (s : ByteArray) (w : World) (hs : s.size ≤ 65536) (hv : VarP w) : Calls Tryz.prog 241 #[.agg #[], .string s] w fun e w' => e = ipE (read6 s.data.toList) ∧ New w w' := by
  obtain ⟨i0, hi, hz0, hz1, hz2⟩ := info_parts info_byte
  have hlen : s.data.toList.length = s.size := by rw [Array.length_toList]; rfl
  obtain ⟨R, hR⟩ : ∃ R, R = read6 s.data.toList := ⟨_, rfl⟩
  rw [← hR]
  by_cases h2 : 2 < s.size
  · have h2I : (2 : Int) < (s.size : Int) := by omega
    have hp0 : 0 < s.size := by omega
    have hp1 : s.size - 1 < s.size := by omega
    have hnn : ((s.size : Int) - 1).toNat = s.size - 1 := by omega
    have hge : (0 : Int) ≤ (s.size : Int) - 1 := by omega
    by_cases h91 : s[0] = 91
    · have e0 : ((s[0].toNat : Int) == 91) = true := by rw [h91]; rfl
      by_cases h93 : s[s.size - 1] = 93
      · have e1 : ((s[s.size - 1].toNat : Int) == 93) = true := by rw [h93]; rfl
        rw [read6_yes ⟨by omega, by rw [head_at s hp0, h91], by rw [last_at s hp1, h93]⟩, ← inner_ext s h2] at hR
        clear h91 h93
        obtain ⟨T, hT⟩ : ∃ T, T = s.extract 1 (s.size - 1) := ⟨_, rfl⟩
        have hTs : T.size ≤ s.size := by rw [hT]; simp [ByteArray.size_extract]; omega
        rw [← hT] at hR
        have HTT := hid hT
        have HSP := hid (fun W (n : New w W) => split_c 58 T W (hv.new n) (by omega))
        have HV := hid (fun W (n : New w W) => hv.new n)
        have hTl : T.data.toList.length = T.size := by rw [Array.length_toList]; rfl
        have hPL := pieces_len [] 58 T.data.toList
        have hcl := List.count_le_length (l := T.data.toList) (a := 58)
        obtain ⟨P, hP⟩ : ∃ P, P = pieces [] 58 T.data.toList := ⟨_, rfl⟩
        have HSZ : Hid (∀ k (h : k < P.length), (mkB P[k]).size ≤ 65537) := hid (fun k h => by subst hP; have := pcs_size 58 T.data.toList h; omega)
        rw [← hP] at hR HSP hPL
        have HR := hid hR
        have hmap : (P.map mkB).length = P.length := List.length_map _
        have hPle : P.length ≤ 65537 := by omega
        have hPpos : 0 < P.length := by omega
        clear hR hP hv hPL hcl hTl
        go_enter Tryz.func241, Tryz.ntmps241
        go_wp2_with fail
        refine (aneed_yes 2 _).mono ?_
        rintro e w3 ⟨rfl, rfl⟩
        go_wp2_with fail
        rw [← HTT.out]
        refine (HSP.out _ (by first | exact Mod.refl _ _ | exact (Mod.refl _ _).alloc _)).mono ?_
        rintro e w1 ⟨rfl, hst, n1⟩
        simp only [World.size_alloc] at hst
        have HS1 := hid hst
        have N1 : Hid (New w w1) := hid (by first | exact n1 | exact ((Mod.refl _ _).alloc _).trans n1)
        clear hst n1 HSP
        rw [hmap]
        go_wp2_with fail
        go_loopw [33, 5] (fun i o wr => ∃ (k : Nat) (v : Value) (N : List Nat), i = .int .i64 k ∧ v = o ∧ k ≤ P.length ∧ numsA 16 65535 (P.take k) = some N ∧ N.length = k ∧ OwnY wr w1.heap.size v (unpairs N) ∧ New w1 wr) (fun i _ _ => P.length - (intOf i).toNat)
        case atStart => exact ⟨0, _, [], rfl, rfl, by omega, by rw [List.take_zero]; rfl, rfl, OwnY.nil _ _, Mod.refl _ _⟩
        case round =>
          obtain ⟨k, v, N, rfl, rfl, hk, hnum, hNk, ho, hn⟩ := hrel
          have HO := hid ho; have HN := hid hn; have HNUM := hid hnum
          clear ho hn hnum
          by_cases hlt : k < P.length
          · have hltI : (k : Int) < (P.length : Int) := by omega
            have HST := hid (HS1.out.new HN.out)
            obtain ⟨bb, oo, hbe, hbb, hcc⟩ := HST.out.get (by rw [hmap]; omega)
            injection hbe with hbe
            injection hbe with hb1 hb2
            subst hb1 hb2
            have g0 := hcc k (by rw [hmap]; exact hlt)
            rw [show (P.map mkB)[k]'(by rw [hmap]; exact hlt) = mkB P[k] from List.getElem_map _] at g0
            have hxs := HSZ.out k hlt
            have HNB := hid (fun W (n : New wr W) => number_any 16 65535 (.inr rfl) (by omega) (mkB P[k]) W (by omega) (HV.out W ((N1.out.trans HN.out).trans n)))
            have HALL := hid (take_all hlt)
            have HTK := hid (take_next hlt)
            rw [show (mkB P[k]).data.toList = P[k] from rfl] at HNB
            obtain ⟨X, hX⟩ : ∃ X, X = P[k] := ⟨_, rfl⟩
            rw [← hX] at g0 hxs HNB HALL HTK
            rw [Nat.zero_add] at g0
            clear hcc hX
            cases hna : numA 16 65535 X with
            | none =>
              rw [hna] at HNB
              have HRN : Hid (R = none) := hid (by rw [HR.out, HALL.out, numsA_bad HNUM.out hna])
              clear hna
              go_wp2_with fail
              refine (HNB.out _ (Mod.refl _ _)).mono ?_
              rintro e w3 ⟨rfl, n3⟩
              have N3 := hid ((N1.out.trans HN.out).trans n3)
              clear n3
              unfold numE
              go_wp2
              exact ⟨rfl, by rw [HRN.out]; rfl, N3.out⟩
            | some u =>
              rw [hna] at HNB
              have HNN := hid (numsA_next HNUM.out hna)
              rw [← HTK.out] at HNN
              have hu := (numA_some hna).1
              have hw1 : IntKind.u8.wrap ((u : Int) / 256) = ((UInt8.ofNat (u / 256)).toNat : Int) := by
                rw [IntWalk.u8_in _ (by omega), UInt8.toNat_ofNat']
                omega
              have hw2 : IntKind.u8.wrap (u : Int) = ((UInt8.ofNat (u % 256)).toNat : Int) := by
                rw [IntKind.wrap_u8, UInt8.toNat_ofNat']
                omega
              obtain ⟨D1, hD1⟩ : ∃ D, D = UInt8.ofNat (u / 256) := ⟨_, rfl⟩
              obtain ⟨D2, hD2⟩ : ∃ D, D = UInt8.ofNat (u % 256) := ⟨_, rfl⟩
              rw [← hD1] at hw1
              rw [← hD2] at hw2
              have HD := hid (show unpairs (N ++ [u]) = unpairs N ++ [D1, D2] by rw [unpairs_app, hD1, hD2]; rfl)
              have hUl := unpairs_len N
              rw [hNk] at hUl
              clear hD1 hD2
              clear hna
              go_wp2_with fail
              refine (HNB.out _ (Mod.refl _ _)).mono ?_
              rintro e w3 ⟨rfl, n3⟩
              have N3 := hid (HN.out.trans n3)
              have HO3 := hid (HO.out.new n3)
              have hs3 := n3.size
              have hs2 := HN.out.size
              clear n3
              unfold numE
              go_wp2_with (at_builtin; refine wpList_append_own_at _ rfl _ _ 42 rfl w1.heap.size 5 i0 _ 1 1 Tryz.underlying42 hi hz0 hz1 hz2 rfl (by decide) _ (unpairs N).length (byV (unpairs N)) rfl ?ow ⟨w3.heap.size, 0, none⟩ 2 2 [.int .u8 (D1.toNat : Int), .int .u8 (D2.toNat : Int)] rfl rfl ?hn ?h1 ?h63 ?hby ?hba ?_)
              case ow => exact HO3.out.new ((Mod.refl _ _).alloc _)
              case hn => exact two_new w3 _ _ _ rfl
              case h1 => intro u hu; simp at hu; rcases hu with rfl | rfl <;> rfl
              case h63 => unfold maxLen; omega
              case hby => omega
              case hba => simp; omega
              intro o' w' r' g' _ _
              have O' := hid (ownY_of (l := unpairs N) [D1, D2] (by rw [hUl]; exact r'))
              have N' := hid (new_grownY (HO3.out.new ((Mod.refl _ _).alloc _)) (Nat.le_refl _) (N3.out.alloc _) g')
              clear r' g'
              go_wp2_with fail
              exact ⟨⟨k + 1, _, N ++ [u], by simp, rfl, by omega, HNN.out, by simp; omega, by rw [HD.out]; exact O'.out, N'.out⟩, by simp [intOf]; omega⟩
          · obtain rfl : k = P.length := by omega
            have HNA := hid (show numsA 16 65535 P = some N by rw [← HNUM.out, List.take_length])
            have hNl : (unpairs N).length = 2 * P.length := by rw [unpairs_len, hNk]
            obtain ⟨form, hform⟩ : ∃ x, x = HO.out.form := ⟨_, rfl⟩
            clear hform
            have HT := hid (ownY_text HO.out)
            have hcv := HT.out
            rcases form with ⟨rfl, hnil⟩ | ⟨g, cap, rfl, hg1, hg2, hg3⟩
            · have : (unpairs N).length = 0 := by rw [hnil]; rfl
              omega
            · rw [hNl] at hcv
              rw [hNl]
              by_cases h4 : P.length = 8
              · have hd : (2 * (P.length : Int) == 16) = true := by rw [beq_iff_eq]; omega
                have HRX : Hid (R = some (unpairs N)) := hid (by rw [HR.out, HNA.out]; simp only; rw [if_pos (by omega)])
                rw [h4] at hcv
                go_wp2_with fail
                refine (aneed_yes 2 _).mono ?_
                rintro e w3 ⟨rfl, rfl⟩
                go_wp2
                go_ret
                exact ⟨by rw [HRX.out]; rfl, N1.out.trans HN.out⟩
              · have hd : (2 * (P.length : Int) == 16) = false := by rw [beq_eq_false_iff_ne]; omega
                have HRX : Hid (R = none) := hid (by rw [HR.out, HNA.out]; simp only; rw [if_neg (by omega)])
                go_wp2_with fail
                refine (aneed_no 2 _).mono ?_
                rintro e w3 ⟨rfl, rfl⟩
                go_wp2
                exact ⟨rfl, by rw [HRX.out]; rfl, N1.out.trans HN.out⟩
      · have e1 : ((s[s.size - 1].toNat : Int) == 93) = false := by
          rw [beq_eq_false_iff_ne]
          intro q
          exact h93 (UInt8.toNat_inj.1 (by show _ = 93; omega))
        have HRN : Hid (R = none) := hid (by rw [hR]; exact read6_no (fun q => h93 (by have := q.2.2; rw [last_at s hp1] at this; exact Option.some.inj this)))
        clear h91 h93 hR
        go_enter Tryz.func241, Tryz.ntmps241
        go_wp2_with fail
        refine (aneed_no 2 _).mono ?_
        rintro e w3 ⟨rfl, rfl⟩
        go_wp2
        exact ⟨rfl, by rw [HRN.out]; rfl, (Mod.refl _ _).alloc _⟩
    · have e0 : ((s[0].toNat : Int) == 91) = false := by
        rw [beq_eq_false_iff_ne]
        intro q
        exact h91 (UInt8.toNat_inj.1 (by show _ = 91; omega))
      have HRN : Hid (R = none) := hid (by rw [hR]; exact read6_no (fun q => h91 (by have := q.2.1; rw [head_at s hp0] at this; exact Option.some.inj this)))
      clear h91 hR
      go_enter Tryz.func241, Tryz.ntmps241
      go_wp2_with fail
      refine (aneed_no 2 _).mono ?_
      rintro e w3 ⟨rfl, rfl⟩
      go_wp2
      exact ⟨rfl, by rw [HRN.out]; rfl, (Mod.refl _ _).alloc _⟩
  · have h2I : ¬ (2 : Int) < (s.size : Int) := by omega
    have HRN : Hid (R = none) := hid (by rw [hR]; exact read6_no (fun q => h2 (by have := q.1; omega)))
    clear hR
    go_enter Tryz.func241, Tryz.ntmps241
    go_wp2_with fail
    refine (aneed_no 2 _).mono ?_
    rintro e w3 ⟨rfl, rfl⟩
    go_wp2
    exact ⟨rfl, by rw [HRN.out]; rfl, (Mod.refl _ _).alloc _⟩
end Go.Proofs.YtbgmkplpolgebaaGreatDoor
