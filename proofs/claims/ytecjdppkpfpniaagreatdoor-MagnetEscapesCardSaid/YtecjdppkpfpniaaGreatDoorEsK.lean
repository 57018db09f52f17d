/-
  The walk of Parse on the one text by which the law looks whether the program is awake. Condition: the library's variable is as laid.
-/
import Derived.Test.YtecjdppkpfpniaaGreatDoorEsJ
namespace Go.Proofs.YtecjdppkpfpniaaGreatDoor
set_option linter.unusedSimpArgs false
set_option linter.unusedVariables false
open Go.RowKit Go.Shelf

def kA : ByteArray := ⟨#[109, 97, 103, 110, 101, 116, 58, 63, 120, 116, 61, 117, 114, 110, 58, 99, 118, 111, 58, 48, 48, 48, 48, 48, 48, 48, 48, 48, 48, 48, 48, 48, 48, 48, 48, 48, 48, 48, 48, 48, 48, 48, 48, 48, 48, 48, 48, 48, 48, 48, 48, 48, 48, 48, 48, 48, 48, 48, 48, 38, 100, 110, 61, 97, 37, 50, 48, 98]⟩
def kR : ByteArray := ⟨#[120, 116, 61, 117, 114, 110, 58, 99, 118, 111, 58, 48, 48, 48, 48, 48, 48, 48, 48, 48, 48, 48, 48, 48, 48, 48, 48, 48, 48, 48, 48, 48, 48, 48, 48, 48, 48, 48, 48, 48, 48, 48, 48, 48, 48, 48, 48, 48, 48, 48, 48, 38, 100, 110, 61, 97, 37, 50, 48, 98]⟩
def kP0 : ByteArray := ⟨#[120, 116, 61, 117, 114, 110, 58, 99, 118, 111, 58, 48, 48, 48, 48, 48, 48, 48, 48, 48, 48, 48, 48, 48, 48, 48, 48, 48, 48, 48, 48, 48, 48, 48, 48, 48, 48, 48, 48, 48, 48, 48, 48, 48, 48, 48, 48, 48, 48, 48, 48]⟩
def kP1 : ByteArray := ⟨#[100, 110, 61, 97, 37, 50, 48, 98]⟩
def kV0 : ByteArray := ⟨#[117, 114, 110, 58, 99, 118, 111, 58, 48, 48, 48, 48, 48, 48, 48, 48, 48, 48, 48, 48, 48, 48, 48, 48, 48, 48, 48, 48, 48, 48, 48, 48, 48, 48, 48, 48, 48, 48, 48, 48, 48, 48, 48, 48, 48, 48, 48, 48]⟩
def kV1 : ByteArray := ⟨#[97, 37, 50, 48, 98]⟩
def kZ : ByteArray := ⟨#[0, 0, 0, 0, 0, 0, 0, 0, 0, 0, 0, 0, 0, 0, 0, 0, 0, 0, 0, 0]⟩
def kN : ByteArray := ⟨#[97, 32, 98]⟩
def rdA : RdM := ⟨⟨#[]⟩, ⟨#[]⟩, ⟨#[]⟩, .slice none 0 0, .slice none 0 0, .slice none 0 0, .slice none 0 0, false, false⟩
def rdB : RdM := { rdA with old := kZ }
def rdC : RdM := { rdB with name := kN, named := true }
/-- What the library's variable is. -/
def VarM (w : World) : Prop := ∃ m : Int, w.cell? ⟨0, 0, none⟩ = some (.int .i64 m)
theorem VarM.new {w w' : World} (h : VarM w) (n : New w w') : VarM w' := by
  obtain ⟨m, hm⟩ := h
  exact ⟨m, New.cellv n hm⟩
theorem k_topic : topicR rdA kV0 = .ok rdB := by
  have h1 : isU uOld kV0 = true := by decide +kernel
  have h2 : (digU uOld kV0).size = 40 := by decide +kernel
  have h3 : hexC (digU uOld kV0).data.toList = some kZ.data.toList := by decide +kernel
  have h4 : isU uNew kV0 = false := by decide +kernel
  have h5 : tO rdA kV0 = .ok rdB := by
    unfold tO
    rw [if_pos h1, if_neg (by omega), h3]
    simp only
    rw [if_neg (by decide +kernel)]
    rfl
  rw [topic_yes h5]
  unfold tN
  rw [if_neg (by rw [h4]; decide)]
theorem k_dn : dnR rdB kV1.data.toList = .ok rdC := by
  have h : loose kV1.data.toList = some kN.data.toList := by
    show loose [97, 37, 50, 48, 98] = _
    rw [loose_plain (by decide), loose_hex, show hexC [50, 48] = some [32] by decide +kernel]
    simp only
    rw [loose_plain (by decide), loose_nil]
    rfl
  unfold dnR
  rw [h]
  simp only
  rw [if_neg (by decide +kernel), if_neg (by decide)]
  rfl
theorem k_split : Lib.splitB ⟨#[38]⟩ 0 (Lib.countB kR ⟨#[38]⟩) kR = [kP0, kP1] := by decide +kernel
theorem k_count : Lib.countB kR ⟨#[38]⟩ = 1 := by decide +kernel
theorem k_prefix (W : World) : Calls Tryz.prog 37 #[.string kA, .string ⟨#[109, 97, 103, 110, 101, 116, 58, 63]⟩] W fun e w' => e = .returned (.tuple #[.string kR, .bool true]) ∧ W = w' := by
  refine (Tryz.strings_CutPrefix kA _ W).mono ?_
  rintro e w' ⟨rfl, rfl⟩
  refine ⟨?_, rfl⟩
  rw [show (⟨(Lib.trimPrefix kA.data.toList (⟨#[109, 97, 103, 110, 101, 116, 58, 63]⟩ : ByteArray).data.toList).toArray⟩ : ByteArray) = kR by decide +kernel, show Lib.hasPrefix kA.data.toList (⟨#[109, 97, 103, 110, 101, 116, 58, 63]⟩ : ByteArray).data.toList = true by decide +kernel]
theorem k_splits (W : World) (h : VarM W) : Calls Tryz.prog 39 #[.string kR, .string ⟨#[38]⟩] W fun e w' => e = .returned (.slice (some ⟨W.heap.size, 0, none⟩) 2 2) ∧ w' = W.alloc (.cells #[.string kP0, .string kP1] 9) := by
  obtain ⟨m, hm⟩ := h
  refine (Tryz.strings_Split kR ⟨#[38]⟩ m W (by decide +kernel) hm (by decide)).mono ?_
  rintro e w' ⟨rfl, rfl⟩
  rw [k_split, k_count]
  exact ⟨rfl, rfl⟩
theorem k_cut0 (W : World) (h : VarM W) : Calls Tryz.prog 40 #[.string kP0, .string ⟨#[61]⟩] W fun e w' => e = .returned (.tuple #[.string pXt, .string kV0, .bool true]) ∧ New W w' := by
  obtain ⟨m, hm⟩ := h
  refine (Tryz.strings_Cut kP0 ⟨#[61]⟩ m W (by decide +kernel) hm).mono ?_
  rintro e w' ⟨rfl, n, rfl⟩
  rw [show (⟨(Lib.cut kP0.data.toList (⟨#[61]⟩ : ByteArray).data.toList).1.toArray⟩ : ByteArray) = pXt by decide +kernel, show (⟨(Lib.cut kP0.data.toList (⟨#[61]⟩ : ByteArray).data.toList).2.1.toArray⟩ : ByteArray) = kV0 by decide +kernel, show (Lib.cut kP0.data.toList (⟨#[61]⟩ : ByteArray).data.toList).2.2 = true by decide +kernel]
  exact ⟨rfl, (Mod.refl _ _).drewN _⟩
theorem k_cut1 (W : World) (h : VarM W) : Calls Tryz.prog 40 #[.string kP1, .string ⟨#[61]⟩] W fun e w' => e = .returned (.tuple #[.string pDn, .string kV1, .bool true]) ∧ New W w' := by
  obtain ⟨m, hm⟩ := h
  refine (Tryz.strings_Cut kP1 ⟨#[61]⟩ m W (by decide +kernel) hm).mono ?_
  rintro e w' ⟨rfl, n, rfl⟩
  rw [show (⟨(Lib.cut kP1.data.toList (⟨#[61]⟩ : ByteArray).data.toList).1.toArray⟩ : ByteArray) = pDn by decide +kernel, show (⟨(Lib.cut kP1.data.toList (⟨#[61]⟩ : ByteArray).data.toList).2.1.toArray⟩ : ByteArray) = kV1 by decide +kernel, show (Lib.cut kP1.data.toList (⟨#[61]⟩ : ByteArray).data.toList).2.2 = true by decide +kernel]
  exact ⟨rfl, (Mod.refl _ _).drewN _⟩
end Go.Proofs.YtecjdppkpfpniaaGreatDoor
