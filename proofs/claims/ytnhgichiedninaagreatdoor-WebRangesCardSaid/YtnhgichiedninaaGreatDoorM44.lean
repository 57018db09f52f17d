/-
  Several texts in one, in their build order. The walk of the reference's Fetches (package coveyref30). Conditions: the list lies as told; the library's table is laid.
-/
import Derived.Test.YtnhgichiedninaaGreatDoorM43
namespace Go.Proofs.YtnhgichiedninaaGreatDoor
set_option linter.unusedSimpArgs false
set_option linter.unusedVariables false
open Go.RowKit

set_option maxRecDepth 100000 in
set_option maxHeartbeats 4000000 in
theorem rFetches_bad (url name : ByteArray) (a : Option Addr) (c : Nat) (l : List FileV) (piece : Int) (new : Bool) (fr cn : Int) (w : World) (h : FilesAt w a c l) (hu : url.size ≤ 300) (hn : name.size ≤ 150) (h0 : -9223372036854775808 ≤ piece ∧ piece ≤ 9223372036854775807) (f0 : -9223372036854775808 ≤ fr ∧ fr ≤ 9223372036854775807) (c0 : -9223372036854775808 ≤ cn ∧ cn ≤ 9223372036854775807) (E : Int) (X : List FetV) (hE : E = fetErr url name l piece new fr cn) (hz : E ≠ 0) (hX : X = []) :
    Calls Tryz.prog 24 #[.int .i64 2, .string url, .string name, .slice a l.length c, .int .i64 piece, .bool new, .agg #[.int .i64 fr, .int .i64 cn]] w fun e w' => ∃ v, e = .returned (.tuple #[v, .int .i64 E]) ∧ OwnFt w' w.heap.size v X ∧ New w w' := by
  have HX := hid hX
  have hval := fun W => wrValid_any url W (by omega)
  have hrv := fun W (n : New w W) => rvalid_any a c l W (h.new n)
  have H3 := hid (fun W (n : New w W) => rPieces_any a c l piece new W (h.new n) h0.1 h0.2)
  have hempty := size_empty (s := name)
  clear hX h h0
  cases ha : askedB url name l with
  | false =>
    have HE : Hid (E = 1) := hid (by rw [hE]; simp [fetErr, askE, ha])
    clear hE hz f0 c0 H3
    rcases asked_no ha with g1 | ⟨g1, g2⟩ | ⟨g1, g2, g3⟩ | ⟨g1, g2, g3, g4⟩
    · rw [g1] at hval
      have H1 := hid hval
      clear ha hval hrv g1 hempty
      go_enter Tryz.func24, Tryz.ntmps24
      go_wp2_with fail
      refine (H1.out _).mono ?_
      rintro e w1 ⟨rfl, rfl⟩
      go_wp2
      go_ret2
      exact ret_fet2 HE.out HX.out rfl ((Mod.refl _ _).alloc _)
    · rw [g1] at hval
      rw [decide_eq_true g2] at hempty
      have H1 := hid hval
      clear ha hval hrv g1 g2
      go_enter Tryz.func24, Tryz.ntmps24
      go_wp2_with fail
      refine (H1.out _).mono ?_
      rintro e w1 ⟨rfl, rfl⟩
      go_wp2
      go_ret2
      exact ret_fet2 HE.out HX.out rfl ((Mod.refl _ _).alloc _)
    · rw [g1] at hval
      rw [decide_eq_false g2] at hempty
      have hI : decide ((100 : Int) < (name.size : Int)) = true := decide_eq_true (by omega)
      have H1 := hid hval
      clear ha hval hrv g1 g2
      go_enter Tryz.func24, Tryz.ntmps24
      go_wp2_with fail
      refine (H1.out _).mono ?_
      rintro e w1 ⟨rfl, rfl⟩
      go_wp2
      go_ret2
      exact ret_fet2 HE.out HX.out rfl ((Mod.refl _ _).alloc _)
    · rw [g1] at hval
      rw [decide_eq_false g2] at hempty
      rw [g4] at hrv
      have hI : decide ((100 : Int) < (name.size : Int)) = false := decide_eq_false (by omega)
      have H1 := hid hval; have H2 := hid hrv
      clear ha hval hrv g1 g2 g4
      go_enter Tryz.func24, Tryz.ntmps24
      go_wp2_with fail
      refine (H1.out _).mono ?_
      rintro e w1 ⟨rfl, rfl⟩
      go_wp2_with fail
      refine (H2.out _ ((Mod.refl _ _).alloc _)).mono ?_
      rintro e w2 ⟨rfl, n2⟩
      have N2 : Hid (New w w2) := hid (((Mod.refl _ w).alloc (.cells #[.int .i64 fr, .int .i64 cn] 34) : New w _).trans n2)
      have B2 : Hid (Blk w2 w.heap.size #[.int .i64 fr, .int .i64 cn] 34) := hid (New.blk n2 (Blk.new _ _ _))
      clear n2
      go_wp2
      go_ret2
      exact ret_fet2 HE.out HX.out rfl N2.out
  | true =>
    obtain ⟨f1, f2, f3, f4, f5⟩ := asked_facts ha
    rw [f1] at hval
    rw [f5] at hrv
    rw [decide_eq_false f3] at hempty
    have hI : decide ((100 : Int) < (name.size : Int)) = false := decide_eq_false (by omega)
    have H1 := hid hval; have H2 := hid hrv
    have hE2 : E = runErr l piece new fr cn := by rw [hE]; simp [fetErr, askE, ha]
    have hway : wayErr l piece = 0 ∨ wayErr l piece = 7 := by
      unfold wayErr
      rw [f5, if_pos rfl]
      split
      · exact .inl rfl
      · exact .inr rfl
    clear hE
    rcases hway with hw0 | hw7
    · have hpr : piecesRes l piece new = piecesOf l piece new := by simp [piecesRes, hw0]
      obtain ⟨p0, p1⟩ := pieces_le (new := new) hw0
      unfold runErr at hE2
      rw [hw0] at H3 hE2
      rw [hpr] at H3
      obtain ⟨P, hP⟩ : ∃ P, P = piecesOf l piece new := ⟨_, rfl⟩
      rw [← hP] at H3 hE2 p0 p1
      rw [if_neg (fun q => q rfl)] at hE2
      have hcs : fr < 0 ∨ cn < 1 ∨ P < cn ∨ P - cn < fr := by
        by_cases hq : fr < 0 ∨ cn < 1 ∨ P < cn ∨ P - cn < fr
        · exact hq
        · rw [if_neg hq] at hE2; exact absurd hE2 hz
      have HE : Hid (E = 7) := hid (by rw [hE2, if_pos hcs])
      have HCS := hid hcs
      obtain ⟨f01, f02⟩ := f0
      obtain ⟨c01, c02⟩ := c0
      clear ha hval hrv f1 f3 f5 hE2 hz hw0 hpr hP hcs
      go_enter Tryz.func24, Tryz.ntmps24
      go_wp2_with fail
      refine (H1.out _).mono ?_
      rintro e w1 ⟨rfl, rfl⟩
      go_wp2_with fail
      refine (H2.out _ ((Mod.refl _ _).alloc _)).mono ?_
      rintro e w2 ⟨rfl, n2⟩
      have N2 : Hid (New w w2) := hid (((Mod.refl _ w).alloc (.cells #[.int .i64 fr, .int .i64 cn] 34) : New w _).trans n2)
      have B2 : Hid (Blk w2 w.heap.size #[.int .i64 fr, .int .i64 cn] 34) := hid (New.blk n2 (Blk.new _ _ _))
      clear n2
      go_wp2_with fail
      refine (H3.out _ N2.out).mono ?_
      rintro e w3 ⟨rfl, n3⟩
      have N3 := hid (N2.out.trans n3)
      have B3 := hid (New.blk n3 B2.out)
      clear n3
      have d0 := B3.out.cellv 0 rfl; have d1 := B3.out.cellv 1 rfl; have dl := B3.out.lt
      by_cases q1 : cn < 1
      · go_wp2
        go_ret2
        exact ret_fet2 HE.out HX.out rfl N3.out
      by_cases q2 : fr < 0
      · go_wp2
        go_ret2
        exact ret_fet2 HE.out HX.out rfl N3.out
      by_cases q3 : P < fr
      · go_wp2
        go_ret2
        exact ret_fet2 HE.out HX.out rfl N3.out
      have q4 : P - fr < cn := by have := HCS.out; omega
      have hwr : IntKind.i64.wrap (P - fr) = P - fr := by rw [IntKind.wrap_i64]; omega
      go_wp2
      go_ret2
      exact ret_fet2 HE.out HX.out rfl N3.out
    · have HE : Hid (E = 7) := hid (by rw [hE2]; unfold runErr; rw [hw7]; rfl)
      rw [hw7] at H3
      clear ha hval hrv f1 f3 f5 hE2 hz hw7
      go_enter Tryz.func24, Tryz.ntmps24
      go_wp2_with fail
      refine (H1.out _).mono ?_
      rintro e w1 ⟨rfl, rfl⟩
      go_wp2_with fail
      refine (H2.out _ ((Mod.refl _ _).alloc _)).mono ?_
      rintro e w2 ⟨rfl, n2⟩
      have N2 : Hid (New w w2) := hid (((Mod.refl _ w).alloc (.cells #[.int .i64 fr, .int .i64 cn] 34) : New w _).trans n2)
      have B2 : Hid (Blk w2 w.heap.size #[.int .i64 fr, .int .i64 cn] 34) := hid (New.blk n2 (Blk.new _ _ _))
      clear n2
      go_wp2_with fail
      refine (H3.out _ N2.out).mono ?_
      rintro e w3 ⟨rfl, n3⟩
      have N3 := hid (N2.out.trans n3)
      have B3 := hid (New.blk n3 B2.out)
      clear n3
      have d0 := B3.out.cellv 0 rfl; have d1 := B3.out.cellv 1 rfl; have dl := B3.out.lt
      go_wp2
      go_ret2
      exact ret_fet2 HE.out HX.out rfl N3.out
end Go.Proofs.YtnhgichiedninaaGreatDoor
