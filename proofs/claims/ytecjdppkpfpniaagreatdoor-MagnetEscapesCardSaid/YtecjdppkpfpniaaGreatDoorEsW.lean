/-
  The walk of the law MagnetEscapes. Condition: the library's variable is as laid.
-/
import Derived.Test.YtecjdppkpfpniaaGreatDoorEsN
namespace Go.Proofs.YtecjdppkpfpniaaGreatDoor
set_option linter.unusedSimpArgs false
set_option linter.unusedVariables false
open Go.RowKit Go.Shelf

set_option maxRecDepth 100000 in
set_option maxHeartbeats 4000000 in
theorem escapes_any (s text : ByteArray) (w : World) (hs : s.size ≤ maxLen) (ht : text.size ≤ maxLen) (hv : VarM w) : Calls Tryz.prog 6 #[.string s, .string text] w fun e w' => e = .returned (.bool true) ∧ New w w' := by
  have HV := hid hv
  have HA := hid (fun W (n : New w W) => awake09_any W (HV.out.new n))
  by_cases h1 : 3000 < s.size
  · have h1I : (3000 : Int) < (s.size : Int) := by omega
    clear h1
    go_enter Tryz.func6, Tryz.ntmps6
    go_wp2_with fail
    refine (HA.out _ (Mod.refl _ _)).mono ?_
    rintro e w1 ⟨rfl, n1⟩
    have N1 := hid n1
    clear n1
    go_wp2
    go_ret
    exact ⟨rfl, N1.out⟩
  have h1I : ¬ (3000 : Int) < (s.size : Int) := by omega
  by_cases h2 : 3000 < text.size ∧ text.size ≤ 65536
  · have h2I : (3000 : Int) < (text.size : Int) := by omega
    have h3I : (text.size : Int) ≤ 65536 := by omega
    clear h1 h2
    go_enter Tryz.func6, Tryz.ntmps6
    go_wp2_with fail
    refine (HA.out _ (Mod.refl _ _)).mono ?_
    rintro e w1 ⟨rfl, n1⟩
    have N1 := hid n1
    clear n1
    go_wp2
    go_ret
    exact ⟨rfl, N1.out⟩
  have HU := hid (fun W => unescape_any text W ht)
  have HR := hid (fun W => runescape_any text W ht)
  have hlen : s.data.toList.length = s.size := by rw [Array.length_toList]; rfl
  have HE := hid (fun W => escape_any s W (by omega))
  have HF := hid (fun W => rescape_any s W (by omega))
  have hel := eOf_len s.data.toList
  have HX := hid (fun W => unescape_any ⟨(eOf s.data.toList).toArray⟩ W (by rw [size_list]; unfold maxLen; omega))
  obtain ⟨u1, u2⟩ := un_esc (l := s.data.toList) (by omega)
  have u3 : unBA ⟨(eOf s.data.toList).toArray⟩ = s := by
    unfold unBA
    rw [show (⟨(eOf s.data.toList).toArray⟩ : ByteArray).data.toList = eOf s.data.toList by simp, u2]
  rw [show (⟨(eOf s.data.toList).toArray⟩ : ByteArray).data.toList = eOf s.data.toList by simp, u1, u3] at HX
  obtain ⟨E, hE⟩ : ∃ E : ByteArray, E = ⟨(eOf s.data.toList).toArray⟩ := ⟨_, rfl⟩
  obtain ⟨B, hB⟩ : ∃ B, B = unBA text := ⟨_, rfl⟩
  obtain ⟨V, hV⟩ : ∃ V, V = unE text.data.toList := ⟨_, rfl⟩
  rw [← hE] at HE HF HX
  rw [← hB, ← hV] at HU HR
  have hEE : (E.toList == E.toList) = true := beq_self_eq_true _
  have hBB : (B.toList == B.toList) = true := beq_self_eq_true _
  have hSS : (s.toList == s.toList) = true := beq_self_eq_true _
  have hVV : (V == V) = true := beq_self_eq_true _
  have hor : (¬ (3000 : Int) < (text.size : Int)) ∨ ((3000 : Int) < (text.size : Int) ∧ ¬ (text.size : Int) ≤ 65536) := by omega
  clear hE hB hV u1 u2 u3 hlen hel h1 h2
  rcases hor with h2I | ⟨h2I, h3I⟩
  all_goals
    go_enter Tryz.func6, Tryz.ntmps6
    go_wp2_with fail
    refine (HU.out _).mono ?_
    rintro e w1 ⟨rfl, n1⟩
    have N1 := hid n1
    clear n1
    go_wp2_with fail
    refine (HR.out _).mono ?_
    rintro e w2 ⟨rfl, n2⟩
    have N2 := hid (N1.out.trans n2)
    clear n2
    go_wp2_with fail
    refine (HE.out _).mono ?_
    rintro e w3 ⟨rfl, n3⟩
    have N3 := hid (N2.out.trans n3)
    clear n3
    go_wp2_with fail
    refine (HX.out _).mono ?_
    rintro e w4 ⟨rfl, n4⟩
    have N4 := hid (N3.out.trans n4)
    clear n4
    go_wp2_with fail
    refine (HE.out _).mono ?_
    rintro e w5 ⟨rfl, n5⟩
    have N5 := hid (N4.out.trans n5)
    clear n5
    go_wp2_with fail
    refine (HF.out _).mono ?_
    rintro e w6 ⟨rfl, n6⟩
    have N6 := hid (N5.out.trans n6)
    clear n6
    go_wp2_with fail
    refine (HA.out _ N6.out).mono ?_
    rintro e w7 ⟨rfl, n7⟩
    have N7 := hid (N6.out.trans n7)
    clear n7
    go_wp2
    go_ret
    exact ⟨rfl, N7.out⟩
end Go.Proofs.YtecjdppkpfpniaaGreatDoor
