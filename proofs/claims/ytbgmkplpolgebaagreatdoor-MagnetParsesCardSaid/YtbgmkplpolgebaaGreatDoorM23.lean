/-
  Several texts in one, in their build order. The reference's New and FromRuns. Conditions: at most 4096 bits; the runs lie as told. The walk of Decimal (the reference): the decimal text of a number. Condition: an int.
-/
import Derived.Test.YtbgmkplpolgebaaGreatDoorM22
import Derived.Test.YtbgmkplpolgebaaGreatDoorM3
import Derived.Laws.BytesArg
namespace Go.Proofs.YtbgmkplpolgebaaGreatDoor
set_option linter.unusedSimpArgs false
set_option linter.unusedVariables false
open Go.RowKit Go.Shelf

theorem bools_zero (n : Nat) : Array.replicate n (Value.bool false) = (bitV (zerosL n) n).toArray := by
  apply Array.ext
  · rw [Array.size_replicate]
    show n = (bitV (zerosL n) n).toArray.size
    simp [bitV_len]
  · intro i h1 h2
    rw [Array.size_replicate] at h1
    have := bitV_at (zerosL n) h1
    rw [Array.getElem_replicate]
    rw [Array.getElem?_eq_getElem h2] at this
    injection this with this
    rw [this]
    unfold zerosL
    rw [bitL_zero]
theorem bitV_set {n : Nat} {S : List UInt8} (hS : FieldOf n S) {j : Nat} (hj : j < n) : ((bitV S n).toArray).setIfInBounds j (.bool true) = (bitV (setL S j true) n).toArray := by
  apply Array.ext_getElem?
  intro i
  rw [Array.getElem?_setIfInBounds]
  by_cases hi : i < n
  · rw [bitV_at _ hi, bitV_at _ hi, hS.bit_set hj]
    by_cases e : j = i
    · subst e
      rw [if_pos rfl, if_pos (by simp [bitV_len]; omega), if_pos rfl]
    · rw [if_neg e, if_neg (fun q => e q.symm)]
  · have e : j ≠ i := by omega
    rw [if_neg e, Array.getElem?_eq_none (by simp [bitV_len]; omega), Array.getElem?_eq_none (by simp [bitV_len]; omega)]
set_option maxRecDepth 100000 in
set_option maxHeartbeats 4000000 in
theorem rNew_any (n : Nat) (w : World) (hn : n ≤ 4096) : Calls Tryz.prog 172 #[.int .i64 n] w fun e w' => e = .returned (.tuple #[.string ⟨(zerosL n).toArray⟩, .int .i64 0]) ∧ New w w' := by
  have HR := hid (fun W => rright_any n W hn)
  have hmk := fun W => make_bools n (by omega) W
  have HF := hid (fun g W (q : Blk W g (bitV (zerosL n) n).toArray 4) => rField_any n g n (zerosL n) W (FieldOf.zero n) hn (Nat.le_refl _) (by omega) q)
  go_enter Tryz.func172, Tryz.ntmps172
  go_wp2_with fail
  refine (HR.out _).mono ?_
  rintro e w1 ⟨rfl, rfl⟩
  go_wp2_with fail
  refine (HF.out _ _ (by rw [bools_zero]; exact Blk.new _ _ _)).mono ?_
  rintro e w2 ⟨rfl, n2⟩
  have N2 := hid (((Mod.refl (fun _ => False) w).alloc (.cells (Array.replicate n (.bool false)) 4)).trans n2)
  clear n2
  go_wp2
  go_ret2
  exact ⟨rfl, N2.out⟩
set_option maxRecDepth 100000 in
set_option maxHeartbeats 8000000 in
theorem rFrom_any (n : Nat) (U : List (Int × Int)) (v : Value) (w : World) (h : RunsAt w v U) (hn : n ≤ 4096) :
    Calls Tryz.prog 43 #[.int .i64 n, v] w fun e w' => e = frE (frR n U) ∧ New w w' := by
  obtain ⟨a, c, rfl, hc1, hc2, hU⟩ := h
  unfold maxLen at hc2
  have HU := hid hU
  have HR := hid (fun W => rright_any n W hn)
  have hmk := fun W => make_bools n (by omega) W
  obtain ⟨X, hX⟩ : ∃ X, X = frR n U := ⟨_, rfl⟩
  rw [← hX]
  have HXX := hid hX
  clear hU hX
  go_enter Tryz.func43, Tryz.ntmps43
  go_wp2_with fail
  refine (HR.out _).mono ?_
  rintro e w1 ⟨rfl, rfl⟩
  go_wp2
  clear hmk
  have HG0 : Hid (Blk (w.alloc (.cells (Array.replicate n (.bool false)) 4)) w.heap.size (bitV (zerosL n) n).toArray 4) := hid (by rw [bools_zero]; exact Blk.new _ _ _)
  have HN0 := hid ((Mod.refl _ w).alloc (.cells (Array.replicate n (.bool false)) 4) : New w _)
  obtain ⟨w1, hw1⟩ : ∃ w1, w1 = w.alloc (.cells (Array.replicate n (.bool false)) 4) := ⟨_, rfl⟩
  rw [← hw1] at HG0 HN0
  rw [← hw1]
  clear hw1
  go_loopw [18, 7] (fun i o wr => ∃ (k : Nat) (E : Int) (S : List UInt8), i = .int .i64 k ∧ o = .int .i64 E ∧ k ≤ U.length ∧ frS n (U.take k) (0, zerosL n) = .ok (E, S) ∧ 0 ≤ E ∧ E ≤ n ∧ Blk wr w.heap.size (bitV S n).toArray 4 ∧ New w wr) (fun i _ _ => U.length - (intOf i).toNat)
  case atStart => exact ⟨0, 0, zerosL n, rfl, rfl, by omega, by rw [List.take_zero]; rfl, by omega, by omega, HG0.out, HN0.out⟩
  case round =>
    clear HG0 HN0
    obtain ⟨k, E, S, rfl, rfl, hk, hfs, hE0, hE1, hb, hn'⟩ := hrel
    have HFS := hid hfs; have HB := hid hb; have HN := hid hn'
    have HSF := hid (frS_field _ _ _ (FieldOf.zero n) hfs)
    clear hfs hb hn'
    by_cases hlt : k < U.length
    · have hltI : (k : Int) < (U.length : Int) := by omega
      rcases HU.out with hnil | ⟨bb, oo, rfl, hbb, hcc⟩
      · rw [hnil] at hlt; simp at hlt
      · obtain ⟨g0, g1⟩ := hcc k hlt
        have g0 := HN.out.cellv g0
        have g1 := HN.out.cellv g1
        have HALL := hid (lst_all hlt)
        have HTK := hid (lst_next hlt)
        obtain ⟨r, hr⟩ : ∃ r, r = U[k] := ⟨_, rfl⟩
        rw [← hr] at g0 g1 HALL HTK
        clear hcc hr
        by_cases b1 : r.2 < 1
        · have HX : Hid (X = .error 7) := hid (by rw [HXX.out, HALL.out]; exact frR_bad HFS.out (by unfold frStep; rw [if_pos (by (simp [runBad, b1]))]))
          go_wp2_with fail
          go_ret2
          exact ⟨by rw [HX.out]; rfl, HN.out.alloc _⟩
        have c1 : decide (r.2 < 1) = false := decide_eq_false b1
        by_cases b2 : r.1 < 0
        · have HX : Hid (X = .error 7) := hid (by rw [HXX.out, HALL.out]; exact frR_bad HFS.out (by unfold frStep; rw [if_pos (by (simp [runBad, b2]))]))
          go_wp2_with fail
          go_ret2
          exact ⟨by rw [HX.out]; rfl, HN.out.alloc _⟩
        have c2 : decide (r.1 < 0) = false := decide_eq_false b2
        by_cases b3 : (n : Int) < r.1
        · have HX : Hid (X = .error 7) := hid (by rw [HXX.out, HALL.out]; exact frR_bad HFS.out (by unfold frStep; rw [if_pos (by (simp [runBad, b3]))]))
          go_wp2_with fail
          go_ret2
          exact ⟨by rw [HX.out]; rfl, HN.out.alloc _⟩
        have c3 : decide ((n : Int) < r.1) = false := decide_eq_false b3
        by_cases b4 : (n : Int) - r.1 < r.2
        · have HX : Hid (X = .error 7) := hid (by rw [HXX.out, HALL.out]; exact frR_bad HFS.out (by unfold frStep; rw [if_pos (by (simp [runBad, b4]))]))
          go_wp2_with fail
          go_ret2
          exact ⟨by rw [HX.out]; rfl, HN.out.alloc _⟩
        have c4 : decide ((n : Int) - r.1 < r.2) = false := decide_eq_false b4
        have HRB := hid (show ¬ runBad n r = true by simp [runBad]; omega)
        by_cases b5 : r.1 < E
        · have HX : Hid (X = .error 6) := hid (by rw [HXX.out, HALL.out]; exact frR_bad HFS.out (by unfold frStep; rw [if_neg HRB.out, if_pos b5]))
          have d5 : decide (r.1 < E) = true := decide_eq_true b5
          go_wp2_with fail
          go_ret2
          exact ⟨by rw [HX.out]; rfl, HN.out.alloc _⟩
        have d5 : decide (r.1 < E) = false := decide_eq_false b5
        obtain ⟨x, hx⟩ : ∃ x : Nat, r.1 = (x : Int) := ⟨r.1.toNat, by omega⟩
        obtain ⟨y, hy⟩ : ∃ y : Nat, r.2 = (y : Int) := ⟨r.2.toNat, by omega⟩
        have HST := hid (show frStep n (E, S) r = .ok (r.1 + r.2, fillL S x y) by unfold frStep; rw [if_neg HRB.out, if_neg b5, hx, hy]; rfl)
        rw [hx] at g0 HST b2 b3 b4 b5 c2 c3 c4 d5
        rw [hy] at g1 HST b1 b4 c1 c4
        have hxy : x + y ≤ n := by omega
        have hwx : IntKind.i64.wrap ((x : Int) + (y : Int)) = (x : Int) + (y : Int) := by rw [IntKind.wrap_i64]; omega
        clear hx hy
        go_wp2_with fail
        have HGX := hid (HB.out.alloc (.cells #[.int .i64 (x : Int), .int .i64 (y : Int)] 66))
        have HNX := hid (HN.out.alloc (.cells #[.int .i64 (x : Int), .int .i64 (y : Int)] 66))
        obtain ⟨WX, hWX⟩ : ∃ WX, WX = wr.alloc (.cells #[.int .i64 (x : Int), .int .i64 (y : Int)] 66) := ⟨_, rfl⟩
        rw [← hWX] at HGX HNX
        rw [← hWX]
        clear hWX g0 g1 hwx d5 c1 c2 c3 c4
        go_loopw [10] (fun i wx => ∃ (m : Nat), i = .int .i64 ((x : Int) + (m : Int)) ∧ m ≤ y ∧ Blk wx w.heap.size (bitV (fillL S x m) n).toArray 4 ∧ New w wx) (fun i _ => x + y - (intOf i).toNat)
        case atStart => exact ⟨0, by simp, by omega, HGX.out, HNX.out⟩
        case round =>
          clear HGX HNX
          obtain ⟨m, rfl, hm, hb, hn'⟩ := hrel
          have HBM := hid hb; have HNM := hid hn'
          clear hb hn'
          by_cases hmy : m < y
          · have hmI : (x : Int) + (m : Int) < (x : Int) + (y : Int) := by omega
            have hbs := HBM.out.set (x + m) (.bool true)
            rw [bitV_set (fill_field HSF.out x m (by omega)) (by omega)] at hbs
            have HBS := hid (show Blk (wr.setCell ⟨w.heap.size, x + m, none⟩ (.bool true)) w.heap.size (bitV (fillL S x (m + 1)) n).toArray 4 from hbs)
            have bl := HBM.out.lt; have bf := HBM.out.frz (x + m)
            have b0 := HBM.out.cellv (x + m) (bitV_at (fillL S x m) (show x + m < n by omega))
            have hxn : (x : Int) + (m : Int) < (n : Int) := by omega
            have hxt : ((x : Int) + (m : Int)).toNat = x + m := by omega
            have hx0 : (0 : Int) ≤ (x : Int) + (m : Int) := by omega
            clear hbs
            go_wp2_with fail
            exact ⟨⟨m + 1, by first | (congr 1; done) | (congr 1; omega), by omega, HBS.out, Mod.set HNM.out _ _ (.inr (Nat.le_refl _))⟩, by simp [intOf]; omega⟩
          · obtain rfl : m = y := by omega
            have HNS := hid (frS_next HFS.out HST.out)
            rw [← HTK.out] at HNS
            go_wp2
            exact ⟨⟨k + 1, (x : Int) + (m : Int), fillL S x m, by simp, rfl, by omega, by have := HNS.out; simpa using this, by omega, by omega, HBM.out, HNM.out⟩, by simp [intOf]; omega⟩
    · obtain rfl : k = U.length := by omega
      have HX : Hid (X = .ok S) := hid (by rw [HXX.out]; exact frR_ok (st := (E, S)) (by rw [← HFS.out, List.take_length]))
      have HF := hid (rField_any n w.heap.size n S wr HSF.out hn (Nat.le_refl _) (by omega) HB.out)
      go_wp2_with fail
      refine HF.out.mono ?_
      rintro e w2 ⟨rfl, n2⟩
      have N2 := hid (HN.out.trans n2)
      clear n2
      go_wp2
      go_ret2
      exact ⟨by rw [HX.out]; rfl, N2.out⟩
end Go.Proofs.YtbgmkplpolgebaaGreatDoor

namespace Go.Proofs.YtbgmkplpolgebaaGreatDoor
set_option linter.unusedSimpArgs false
set_option linter.unusedVariables false
open Go.RowKit

theorem itoa_one {m : Nat} (h : m < 10) : itoaB (m : Int) = ⟨#[UInt8.ofNat (48 + m)]⟩ := by
  unfold itoaB Lib.itoa
  rw [if_neg (by omega), Lib.decDigits, dif_pos (by simpa using h)]
  simp
theorem itoa_more {m : Nat} (h : ¬ m < 10) : itoaB (m : Int) = itoaB ((m / 10 : Nat) : Int) ++ ⟨#[UInt8.ofNat (48 + m % 10)]⟩ := by
  apply bytes_ext
  unfold itoaB Lib.itoa
  rw [if_neg (by omega), Lib.decDigits, dif_neg (by simpa using h), if_neg (by omega)]
  have : ((m / 10 : Nat) : Int).toNat = m / 10 := Int.toNat_natCast _
  rw [this]
  simp

theorem itoa_size {n : Int} (h0 : -9223372036854775808 ≤ n) (h1 : n ≤ 9223372036854775807) : (itoaB n).size ≤ 21 := by
  have := Lib.itoa_length_le n h0 h1
  show (Lib.itoa n).toArray.size ≤ 21
  simpa using this
theorem ret_str {a b : ByteArray} (h : a = b) : Ending.returned (.string a) = .returned (.string b) := by rw [h]
theorem one_byte (w : World) (v : Int) : (convert 42 9 (.slice (some ⟨w.heap.size, 0, none⟩) 1 1)).run Tryz.prog (w.alloc (.cells #[.int .u8 v] 5)) = .ok (.string ⟨#[UInt8.ofNat v.toNat]⟩) (w.alloc (.cells #[.int .u8 v] 5)) := by
  have := run_convert_bytes_arg (P := Tryz.prog) (w.alloc (.cells #[.int .u8 v] 5)) 42 5 Tryz.underlying42 Tryz.underlying5 w.heap.size 0 1 1 [v] rfl (fun i hi => by
    obtain rfl : i = 0 := by omega
    exact (Blk.new w #[.int .u8 v] 5).cellv 0 rfl) 9 Tryz.underlying9
  rw [this]
  rfl

set_option maxRecDepth 100000 in
set_option maxHeartbeats 1000000 in
theorem decimal_nat (m : Nat) : (m : Int) ≤ 9223372036854775807 → ∀ w : World, Calls Tryz.prog 121 #[.int .i64 m] w fun e w' => e = .returned (.string (itoaB m)) ∧ New w w' := by
  induction m using Nat.strongRecOn with
  | ind m ih =>
    intro hm w
    have hcv := one_byte w (48 + (m : Int) % 10)
    have h48 : (48 + (m : Int) % 10).toNat = 48 + m % 10 := by omega
    by_cases h : m < 10
    · have HI := hid (itoa_one h)
      have hmm : m % 10 = m := by omega
      have HM := hid (And.intro h48 hmm)
      clear ih h48 hmm
      go_enter Tryz.func121, Tryz.ntmps121
      go_wp2
      go_ret
      exact ⟨ret_str (by rw [HI.out, HM.out.2]), (Mod.refl _ _).alloc _⟩
    · have e10 : ((m / 10 : Nat) : Int) = (m : Int) / 10 := by omega
      have HI := hid (itoa_more h)
      have HM := hid h48
      have IH := hid (ih (m / 10) (by omega) (by omega))
      rw [e10] at HI IH
      have hs1 := itoa_size (n := (m : Int) / 10) (by omega) (by omega)
      have hs2 : (⟨#[48 + UInt8.ofNat (m % 10)]⟩ : ByteArray).size = 1 := rfl
      clear ih h48 e10
      go_enter Tryz.func121, Tryz.ntmps121
      go_wp2_with (go_at_call 121; refine (IH.out _).mono ?_; rintro e w1 ⟨rfl, h1⟩; have H1 := hid h1; clear h1)
      go_ret
      exact ⟨ret_str (by rw [HI.out]; simp), ((Mod.refl _ _).alloc _).trans H1.out⟩

end Go.Proofs.YtbgmkplpolgebaaGreatDoor
