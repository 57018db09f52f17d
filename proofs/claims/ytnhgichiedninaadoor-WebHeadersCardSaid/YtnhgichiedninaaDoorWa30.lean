/-
  The walk of the law's awake. Condition: the library's table is laid.
-/
import Derived.Test.YtnhgichiedninaaDoorWp
import Derived.Test.YtnhgichiedninaaDoorWh
namespace Go.Proofs.YtnhgichiedninaaDoor
set_option linter.unusedSimpArgs false
set_option linter.unusedVariables false
open Go.RowKit Go.Shelf

def exL : List FileV := [⟨[⟨#[97, 32, 98]⟩], 1, false⟩]
def exU : ByteArray := ⟨#[104, 116, 116, 112, 58, 47, 47, 120, 47]⟩
def exN : ByteArray := ⟨#[97, 32, 98]⟩
theorem ex_err : urlErr exU exN exL 0 = 0 := by decide +kernel
theorem ex_res : urlRes exU exN exL 0 = [104, 116, 116, 112, 58, 47, 47, 120, 47, 97, 37, 50, 48, 98] := by decide +kernel
theorem ex_hok : hdrOk 5 3 = true := by decide
theorem ex_hdr : hdrRes 5 3 = ⟨#[98, 121, 116, 101, 115, 61, 53, 45, 55]⟩ := by
  have h5 : Lib.itoa 5 = [53] := by
    rw [show (5 : Int) = ((5 : Nat) : Int) by rfl, Lib.itoa_nonneg, Lib.decDigits_one (by omega)]
    rfl
  have h7 : Lib.itoa 7 = [55] := by
    rw [show (7 : Int) = ((7 : Nat) : Int) by rfl, Lib.itoa_nonneg, Lib.decDigits_one (by omega)]
    rfl
  unfold hdrRes hdrB itoaB
  rw [ex_hok, if_pos rfl, show (5 : Int) + 3 - 1 = 7 by rfl, h5, h7]
  rfl
theorem ex_herr : hdrErr 5 3 = 0 := by unfold hdrErr; rw [ex_hok, if_pos rfl]
theorem ex_lies (w : World) : FilesAt ((w.alloc (.cells #[.string ⟨#[97, 32, 98]⟩] 9)).alloc (.cells #[.slice (some ⟨w.heap.size, 0, none⟩) 1 1, .int .i64 1, .bool false] 37)) (some ⟨w.heap.size + 1, 0, none⟩) 1 exL := by
  have b0 := (Blk.new w #[.string ⟨#[97, 32, 98]⟩] 9).alloc (.cells #[.slice (some ⟨w.heap.size, 0, none⟩) 1 1, .int .i64 1, .bool false] 37)
  have b1 := Blk.newAt (w := w.alloc (.cells #[.string ⟨#[97, 32, 98]⟩] 9)) (b := w.heap.size + 1) (cs := #[.slice (some ⟨w.heap.size, 0, none⟩) 1 1, .int .i64 1, .bool false]) (t := 37) (by simp)
  refine ⟨by simp [exL], by simp [maxLen], .inr ⟨_, _, rfl, by simp, fun i f hf => ?_⟩⟩
  match i, hf with
  | 0, hf =>
    simp [exL] at hf
    subst hf
    refine ⟨_, _, b1.cellv 0 rfl, b1.cellv 1 rfl, b1.cellv 2 rfl, ⟨by simp, by simp [maxLen], fun x hx => by simp at hx; subst hx; decide, .inr ⟨_, 0, rfl, b0.lt, fun i x hx => ?_⟩⟩, by decide⟩
    match i, hx with
    | 0, hx => simp at hx; subst hx; exact b0.cellv 0 rfl
    | i + 1, hx => simp at hx
  | i + 1, hf => simp [exL] at hf
set_option maxRecDepth 100000 in
set_option maxHeartbeats 2000000 in
theorem awake30_any (w : World) (ht : Tab w) : Calls Tryd.prog 5 #[] w fun e w' => e = .returned (.bool true) ∧ New w w' := by
  have HP := hid (wPath_any exU exN (some ⟨w.heap.size + 1, 0, none⟩) 1 exL 0 _ (by decide) (by decide) (ex_lies w) (ht.new (((Mod.refl _ _).alloc _).alloc _)))
  rw [ex_err, ex_res] at HP
  have HH := hid (fun W (n : New w W) => Header_any 0 0 5 3 ⟨#[]⟩ W (ht.new n))
  rw [ex_hdr, ex_herr] at HH
  clear ht
  go_enter Tryd.func5, Tryd.ntmps5
  go_wp2_with fail
  refine HP.out.mono ?_
  rintro e w1 ⟨rfl, n1⟩
  have N1 := hid (Mod.trans (((Mod.refl _ w).alloc _).alloc _ : New w _) n1)
  clear n1
  go_wp2_with fail
  refine (HH.out _ N1.out).mono ?_
  rintro e w2 ⟨rfl, n2⟩
  have N2 := hid (N1.out.trans n2)
  clear n2
  go_wp2
  go_ret
  exact ⟨rfl, N2.out⟩
end Go.Proofs.YtnhgichiedninaaDoor
