/-
  Several texts in one, in their build order. The walk of web.Header. Condition: the library's table is laid. The walk of the law's awake. Condition: the library's table is laid.
-/
import Derived.Test.YtnhgichiedninaaGreatDoorM27
import Derived.Test.YtnhgichiedninaaGreatDoorM46
namespace Go.Proofs.YtnhgichiedninaaGreatDoor
set_option linter.unusedSimpArgs false
set_option linter.unusedVariables false
open Go.RowKit Go.Shelf

/-- The header of a range, and whether the range is one. -/
def hdrB (f c : Int) : ByteArray := ⟨#[98, 121, 116, 101, 115, 61]⟩ ++ itoaB f ++ ⟨#[45]⟩ ++ itoaB (f + c - 1)
def hdrOk (f c : Int) : Bool := decide (0 ≤ f) && decide (1 ≤ c) && decide (f ≤ 65536) && decide (c ≤ 65536)
def hdrErr (f c : Int) : Int := if hdrOk f c then 0 else 7
def hdrRes (f c : Int) : ByteArray := if hdrOk f c then hdrB f c else ⟨#[]⟩
theorem hdrOk_iff {f c : Int} : hdrOk f c = true ↔ 0 ≤ f ∧ 1 ≤ c ∧ f ≤ 65536 ∧ c ≤ 65536 := by
  simp only [hdrOk, Bool.and_eq_true, decide_eq_true_eq]
  omega
structure Hd (w W : World) (xb : Nat) (wv fv f c : Int) (p : ByteArray) : Prop where
  n : New w W
  x : Blk W xb #[.int .i64 wv, .int .i64 fv, .int .i64 f, .int .i64 c, .string p] 62
theorem Hd.new {w W W' : World} {xb : Nat} {wv fv f c : Int} {p : ByteArray} (h : Hd w W xb wv fv f c p) (n : New W W') : Hd w W' xb wv fv f c p := ⟨h.n.trans n, n.blk h.x⟩
theorem Hd.drew {w W : World} {xb : Nat} {wv fv f c : Int} {p : ByteArray} (h : Hd w W xb wv fv f c p) : Hd w W.drew xb wv fv f c p := h.new (Mod.refl _ _).drew
theorem Hd.cells {w W : World} {xb : Nat} {wv fv f c : Int} {p : ByteArray} (h : Hd w W xb wv fv f c p) : W.cell? ⟨xb, 2, none⟩ = some (.int .i64 f) ∧ W.cell? ⟨xb, 3, none⟩ = some (.int .i64 c) := ⟨h.x.cellv 2 rfl, h.x.cellv 3 rfl⟩
theorem ret_hdr {f c : Int} {o : ByteArray} {e : Int} (h1 : hdrRes f c = o) (h2 : hdrErr f c = e) : Ending.returned (.tuple #[.string o, .int .i64 e]) = .returned (.tuple #[.string (hdrRes f c), .int .i64 (hdrErr f c)]) := by rw [h1, h2]
set_option maxRecDepth 100000 in
set_option maxHeartbeats 2000000 in
theorem Header_any (wv fv f c : Int) (p : ByteArray) (w : World) (ht : Tab w) :
    Calls Tryz.prog 30 #[.agg #[.int .i64 wv, .int .i64 fv, .int .i64 f, .int .i64 c, .string p]] w fun e w' => e = .returned (.tuple #[.string (hdrRes f c), .int .i64 (hdrErr f c)]) ∧ New w w' := by
  by_cases hok : hdrOk f c = true
  · obtain ⟨h0, h1, h2, h3⟩ := hdrOk_iff.1 hok
    have HR := hid (show hdrRes f c = hdrB f c ∧ hdrErr f c = 0 by unfold hdrRes hdrErr; rw [hok]; exact ⟨rfl, rfl⟩)
    have HIT := hid (fun n (q0 : 0 ≤ n) (q1 : n ≤ 200000) W (m : New w W) => itoa_any n (by omega) (by omega) W (ht.new m))
    have z1 := itoa_size (n := f) (by omega) (by omega)
    have z2 := itoa_size (n := f + c - 1) (by omega) (by omega)
    obtain ⟨xb, hxb⟩ : ∃ xb, xb = w.heap.size := ⟨_, rfl⟩
    have K0 : Hid (Hd w (w.alloc (.cells #[.int .i64 wv, .int .i64 fv, .int .i64 f, .int .i64 c, .string p] 62)) xb wv fv f c p) := hid ⟨(Mod.refl _ _).alloc _, by rw [hxb]; exact Blk.new _ _ _⟩
    have a1 : ∀ w, (Op.stringOp .add ⟨#[98, 121, 116, 101, 115, 61]⟩ (itoaB f)).run Tryz.prog w = .ok (.string (⟨#[98, 121, 116, 101, 115, 61]⟩ ++ itoaB f)) w := fun w => run_string_add_sum (w := w) _ _ (by show 6 + _ ≤ _; omega)
    have a2 : ∀ w, (Op.stringOp .add (⟨#[98, 121, 116, 101, 115, 61]⟩ ++ itoaB f) ⟨#[45]⟩).run Tryz.prog w = .ok (.string (⟨#[98, 121, 116, 101, 115, 61]⟩ ++ itoaB f ++ ⟨#[45]⟩)) w := fun w => run_string_add_sum (w := w) _ _ (by rw [ByteArray.size_append]; show 6 + _ + 1 ≤ _; omega)
    have a3 : ∀ w, (Op.stringOp .add (⟨#[98, 121, 116, 101, 115, 61]⟩ ++ itoaB f ++ ⟨#[45]⟩) (itoaB (f + c - 1))).run Tryz.prog w = .ok (.string (hdrB f c)) w := fun w => run_string_add_sum (w := w) _ _ (by rw [ByteArray.size_append, ByteArray.size_append]; show 6 + _ + 1 + _ ≤ _; omega)
    have b1 : IntKind.i64.wrap (f + c) = f + c := IntWalk.i64_in _ (by omega)
    have b2 : IntKind.i64.wrap (f + c - 1) = f + c - 1 := IntWalk.i64_in _ (by omega)
    clear hok ht
    go_enter Tryz.func30, Tryz.ntmps30
    go_wp2
    rw [← hxb]
    clear hxb
    go_region_held3 (fun w' => w'.cell? ⟨xb, 2, none⟩ = some (.int .i64 f) ∧ w'.cell? ⟨xb, 3, none⟩ = some (.int .i64 c)) ((first | exact K1.out.cells | exact K0.out.drew.cells | go_keep)) ((first | (go_at_call 71; (with_reducible refine (HIT.out _ ?_ ?_ _ ?_).mono ?_); (focus omega); (focus omega); (focus (first | exact K1.out.n | exact K0.out.drew.n)); rintro e wi ⟨rfl, ni⟩; have K1 : Hid (Hd w wi xb wv fv f c p) := hid (by first | exact K1.out.new ni | exact K0.out.drew.new ni))))
    all_goals clear a1 a2 a3 b1 b2
    all_goals go_wp2
    all_goals go_ret2
    all_goals exact ⟨ret_hdr HR.out.1 HR.out.2, K1.out.n⟩
  · have hno : hdrOk f c = false := by simpa using hok
    have hor : f < 0 ∨ (0 ≤ f ∧ c < 1) ∨ (0 ≤ f ∧ 1 ≤ c ∧ 65536 < f) ∨ (0 ≤ f ∧ 1 ≤ c ∧ f ≤ 65536 ∧ 65536 < c) := by
      have hn : ¬ (0 ≤ f ∧ 1 ≤ c ∧ f ≤ 65536 ∧ c ≤ 65536) := fun q => hok (hdrOk_iff.2 q)
      omega
    clear hok
    rcases hor with g | ⟨g, g2⟩ | ⟨g, g2, g3⟩ | ⟨g, g2, g3, g4⟩
    · have HR := hid (show hdrRes f c = ⟨#[]⟩ ∧ hdrErr f c = 7 by unfold hdrRes hdrErr; rw [hno]; exact ⟨rfl, rfl⟩)
      clear hno ht
      go_enter Tryz.func30, Tryz.ntmps30
      go_wp2
      go_ret2
      exact ⟨ret_hdr HR.out.1 HR.out.2, (Mod.refl _ _).alloc _⟩
    · have HR := hid (show hdrRes f c = ⟨#[]⟩ ∧ hdrErr f c = 7 by unfold hdrRes hdrErr; rw [hno]; exact ⟨rfl, rfl⟩)
      clear hno ht
      go_enter Tryz.func30, Tryz.ntmps30
      go_wp2
      go_ret2
      exact ⟨ret_hdr HR.out.1 HR.out.2, (Mod.refl _ _).alloc _⟩
    · have HR := hid (show hdrRes f c = ⟨#[]⟩ ∧ hdrErr f c = 7 by unfold hdrRes hdrErr; rw [hno]; exact ⟨rfl, rfl⟩)
      clear hno ht
      go_enter Tryz.func30, Tryz.ntmps30
      go_wp2
      go_ret2
      exact ⟨ret_hdr HR.out.1 HR.out.2, (Mod.refl _ _).alloc _⟩
    · have HR := hid (show hdrRes f c = ⟨#[]⟩ ∧ hdrErr f c = 7 by unfold hdrRes hdrErr; rw [hno]; exact ⟨rfl, rfl⟩)
      clear hno ht
      go_enter Tryz.func30, Tryz.ntmps30
      go_wp2
      go_ret2
      exact ⟨ret_hdr HR.out.1 HR.out.2, (Mod.refl _ _).alloc _⟩
end Go.Proofs.YtnhgichiedninaaGreatDoor

namespace Go.Proofs.YtnhgichiedninaaGreatDoor
set_option linter.unusedSimpArgs false
set_option linter.unusedVariables false
open Go.RowKit Go.Shelf

def exL : List FileV := [⟨[⟨#[97, 32, 98]⟩], 1, false⟩]
def exU : ByteArray := ⟨#[104, 116, 116, 112, 58, 47, 47, 120, 47]⟩
def exN : ByteArray := ⟨#[97, 32, 98]⟩
theorem ex_err : urlErr exU exN exL 0 = 0 := by decide +kernel
theorem ex_res : urlRes exU exN exL 0 = [104, 116, 116, 112, 58, 47, 47, 120, 47, 97, 37, 50, 48, 98] := by decide +kernel
theorem ex_hok : hdrOk 5 3 = true := by decide
theorem ex_hdr : hdrRes 5 3 = ⟨#[98, 121, 116, 101, 115, 61, 53, 45, 55]⟩ := by
  have h5 : Lib.itoa 5 = [53] := by
    rw [show (5 : Int) = ((5 : Nat) : Int) by rfl, Lib.itoa_nonneg, Lib.decDigits_one (by omega)]
    rfl
  have h7 : Lib.itoa 7 = [55] := by
    rw [show (7 : Int) = ((7 : Nat) : Int) by rfl, Lib.itoa_nonneg, Lib.decDigits_one (by omega)]
    rfl
  unfold hdrRes hdrB itoaB
  rw [ex_hok, if_pos rfl, show (5 : Int) + 3 - 1 = 7 by rfl, h5, h7]
  rfl
theorem ex_herr : hdrErr 5 3 = 0 := by unfold hdrErr; rw [ex_hok, if_pos rfl]
theorem ex_lies (w : World) : FilesAt ((w.alloc (.cells #[.string ⟨#[97, 32, 98]⟩] 9)).alloc (.cells #[.slice (some ⟨w.heap.size, 0, none⟩) 1 1, .int .i64 1, .bool false] 60)) (some ⟨w.heap.size + 1, 0, none⟩) 1 exL := by
  have b0 := (Blk.new w #[.string ⟨#[97, 32, 98]⟩] 9).alloc (.cells #[.slice (some ⟨w.heap.size, 0, none⟩) 1 1, .int .i64 1, .bool false] 60)
  have b1 := Blk.newAt (w := w.alloc (.cells #[.string ⟨#[97, 32, 98]⟩] 9)) (b := w.heap.size + 1) (cs := #[.slice (some ⟨w.heap.size, 0, none⟩) 1 1, .int .i64 1, .bool false]) (t := 60) (by simp)
  refine ⟨by simp [exL], by simp [maxLen], .inr ⟨_, _, rfl, by simp, fun i f hf => ?_⟩⟩
  match i, hf with
  | 0, hf =>
    simp [exL] at hf
    subst hf
    refine ⟨_, _, b1.cellv 0 rfl, b1.cellv 1 rfl, b1.cellv 2 rfl, ⟨by simp, by simp [maxLen], fun x hx => by simp at hx; subst hx; decide, .inr ⟨_, 0, rfl, b0.lt, fun i x hx => ?_⟩⟩, by decide⟩
    match i, hx with
    | 0, hx => simp at hx; subst hx; exact b0.cellv 0 rfl
    | i + 1, hx => simp at hx
  | i + 1, hf => simp [exL] at hf
set_option maxRecDepth 100000 in
set_option maxHeartbeats 2000000 in
theorem awake30_any (w : World) (ht : Tab w) : Calls Tryz.prog 7 #[] w fun e w' => e = .returned (.bool true) ∧ New w w' := by
  have HP := hid (wPath_any exU exN (some ⟨w.heap.size + 1, 0, none⟩) 1 exL 0 _ (by decide) (by decide) (ex_lies w) (ht.new (((Mod.refl _ _).alloc _).alloc _)))
  rw [ex_err, ex_res] at HP
  have HH := hid (fun W (n : New w W) => Header_any 0 0 5 3 ⟨#[]⟩ W (ht.new n))
  rw [ex_hdr, ex_herr] at HH
  clear ht
  go_enter Tryz.func7, Tryz.ntmps7
  go_wp2_with fail
  refine HP.out.mono ?_
  rintro e w1 ⟨rfl, n1⟩
  have N1 := hid (Mod.trans (((Mod.refl _ w).alloc _).alloc _ : New w _) n1)
  clear n1
  go_wp2_with fail
  refine (HH.out _ N1.out).mono ?_
  rintro e w2 ⟨rfl, n2⟩
  have N2 := hid (N1.out.trans n2)
  clear n2
  go_wp2
  go_ret
  exact ⟨rfl, N2.out⟩
end Go.Proofs.YtnhgichiedninaaGreatDoor
