/-
  The walk of web.Header. Condition: the library's table is laid.
-/
import Derived.Test.YtnhgichiedninaaDoorWm
import Derived.Test.YtnhgichiedninaaDoorTxG
namespace Go.Proofs.YtnhgichiedninaaDoor
set_option linter.unusedSimpArgs false
set_option linter.unusedVariables false
open Go.RowKit Go.Shelf

/-- The header of a range, and whether the range is one. -/
def hdrB (f c : Int) : ByteArray := ⟨#[98, 121, 116, 101, 115, 61]⟩ ++ itoaB f ++ ⟨#[45]⟩ ++ itoaB (f + c - 1)
def hdrOk (f c : Int) : Bool := decide (0 ≤ f) && decide (1 ≤ c) && decide (f ≤ 65536) && decide (c ≤ 65536)
def hdrErr (f c : Int) : Int := if hdrOk f c then 0 else 7
def hdrRes (f c : Int) : ByteArray := if hdrOk f c then hdrB f c else ⟨#[]⟩
theorem hdrOk_iff {f c : Int} : hdrOk f c = true ↔ 0 ≤ f ∧ 1 ≤ c ∧ f ≤ 65536 ∧ c ≤ 65536 := by
  simp only [hdrOk, Bool.and_eq_true, decide_eq_true_eq]
  omega
structure Hd (w W : World) (xb : Nat) (wv fv f c : Int) (p : ByteArray) : Prop where
  n : New w W
  x : Blk W xb #[.int .i64 wv, .int .i64 fv, .int .i64 f, .int .i64 c, .string p] 30
theorem Hd.new {w W W' : World} {xb : Nat} {wv fv f c : Int} {p : ByteArray} (h : Hd w W xb wv fv f c p) (n : New W W') : Hd w W' xb wv fv f c p := ⟨h.n.trans n, n.blk h.x⟩
theorem Hd.drew {w W : World} {xb : Nat} {wv fv f c : Int} {p : ByteArray} (h : Hd w W xb wv fv f c p) : Hd w W.drew xb wv fv f c p := h.new (Mod.refl _ _).drew
theorem Hd.cells {w W : World} {xb : Nat} {wv fv f c : Int} {p : ByteArray} (h : Hd w W xb wv fv f c p) : W.cell? ⟨xb, 2, none⟩ = some (.int .i64 f) ∧ W.cell? ⟨xb, 3, none⟩ = some (.int .i64 c) := ⟨h.x.cellv 2 rfl, h.x.cellv 3 rfl⟩
theorem ret_hdr {f c : Int} {o : ByteArray} {e : Int} (h1 : hdrRes f c = o) (h2 : hdrErr f c = e) : Ending.returned (.tuple #[.string o, .int .i64 e]) = .returned (.tuple #[.string (hdrRes f c), .int .i64 (hdrErr f c)]) := by rw [h1, h2]
set_option maxRecDepth 100000 in
set_option maxHeartbeats 2000000 in
theorem Header_any (wv fv f c : Int) (p : ByteArray) (w : World) (ht : Tab w) :
    Calls Tryd.prog 11 #[.agg #[.int .i64 wv, .int .i64 fv, .int .i64 f, .int .i64 c, .string p]] w fun e w' => e = .returned (.tuple #[.string (hdrRes f c), .int .i64 (hdrErr f c)]) ∧ New w w' := by
  by_cases hok : hdrOk f c = true
  · obtain ⟨h0, h1, h2, h3⟩ := hdrOk_iff.1 hok
    have HR := hid (show hdrRes f c = hdrB f c ∧ hdrErr f c = 0 by unfold hdrRes hdrErr; rw [hok]; exact ⟨rfl, rfl⟩)
    have HIT := hid (fun n (q0 : 0 ≤ n) (q1 : n ≤ 200000) W (m : New w W) => itoa_any n (by omega) (by omega) W (ht.new m))
    have z1 := itoa_size (n := f) (by omega) (by omega)
    have z2 := itoa_size (n := f + c - 1) (by omega) (by omega)
    obtain ⟨xb, hxb⟩ : ∃ xb, xb = w.heap.size := ⟨_, rfl⟩
    have K0 : Hid (Hd w (w.alloc (.cells #[.int .i64 wv, .int .i64 fv, .int .i64 f, .int .i64 c, .string p] 30)) xb wv fv f c p) := hid ⟨(Mod.refl _ _).alloc _, by rw [hxb]; exact Blk.new _ _ _⟩
    have a1 : ∀ w, (Op.stringOp .add ⟨#[98, 121, 116, 101, 115, 61]⟩ (itoaB f)).run Tryd.prog w = .ok (.string (⟨#[98, 121, 116, 101, 115, 61]⟩ ++ itoaB f)) w := fun w => run_string_add_sum (w := w) _ _ (by show 6 + _ ≤ _; omega)
    have a2 : ∀ w, (Op.stringOp .add (⟨#[98, 121, 116, 101, 115, 61]⟩ ++ itoaB f) ⟨#[45]⟩).run Tryd.prog w = .ok (.string (⟨#[98, 121, 116, 101, 115, 61]⟩ ++ itoaB f ++ ⟨#[45]⟩)) w := fun w => run_string_add_sum (w := w) _ _ (by rw [ByteArray.size_append]; show 6 + _ + 1 ≤ _; omega)
    have a3 : ∀ w, (Op.stringOp .add (⟨#[98, 121, 116, 101, 115, 61]⟩ ++ itoaB f ++ ⟨#[45]⟩) (itoaB (f + c - 1))).run Tryd.prog w = .ok (.string (hdrB f c)) w := fun w => run_string_add_sum (w := w) _ _ (by rw [ByteArray.size_append, ByteArray.size_append]; show 6 + _ + 1 + _ ≤ _; omega)
    have b1 : IntKind.i64.wrap (f + c) = f + c := IntWalk.i64_in _ (by omega)
    have b2 : IntKind.i64.wrap (f + c - 1) = f + c - 1 := IntWalk.i64_in _ (by omega)
    clear hok ht
    go_enter Tryd.func11, Tryd.ntmps11
    go_wp2
    rw [← hxb]
    clear hxb
    go_region_held3 (fun w' => w'.cell? ⟨xb, 2, none⟩ = some (.int .i64 f) ∧ w'.cell? ⟨xb, 3, none⟩ = some (.int .i64 c)) ((first | exact K1.out.cells | exact K0.out.drew.cells | go_keep)) ((first | (go_at_call 22; (with_reducible refine (HIT.out _ ?_ ?_ _ ?_).mono ?_); (focus omega); (focus omega); (focus (first | exact K1.out.n | exact K0.out.drew.n)); rintro e wi ⟨rfl, ni⟩; have K1 : Hid (Hd w wi xb wv fv f c p) := hid (by first | exact K1.out.new ni | exact K0.out.drew.new ni))))
    all_goals clear a1 a2 a3 b1 b2
    all_goals go_wp2
    all_goals go_ret2
    all_goals exact ⟨ret_hdr HR.out.1 HR.out.2, K1.out.n⟩
  · have hno : hdrOk f c = false := by simpa using hok
    have hor : f < 0 ∨ (0 ≤ f ∧ c < 1) ∨ (0 ≤ f ∧ 1 ≤ c ∧ 65536 < f) ∨ (0 ≤ f ∧ 1 ≤ c ∧ f ≤ 65536 ∧ 65536 < c) := by
      have hn : ¬ (0 ≤ f ∧ 1 ≤ c ∧ f ≤ 65536 ∧ c ≤ 65536) := fun q => hok (hdrOk_iff.2 q)
      omega
    clear hok
    rcases hor with g | ⟨g, g2⟩ | ⟨g, g2, g3⟩ | ⟨g, g2, g3, g4⟩
    · have HR := hid (show hdrRes f c = ⟨#[]⟩ ∧ hdrErr f c = 7 by unfold hdrRes hdrErr; rw [hno]; exact ⟨rfl, rfl⟩)
      clear hno ht
      go_enter Tryd.func11, Tryd.ntmps11
      go_wp2
      go_ret2
      exact ⟨ret_hdr HR.out.1 HR.out.2, (Mod.refl _ _).alloc _⟩
    · have HR := hid (show hdrRes f c = ⟨#[]⟩ ∧ hdrErr f c = 7 by unfold hdrRes hdrErr; rw [hno]; exact ⟨rfl, rfl⟩)
      clear hno ht
      go_enter Tryd.func11, Tryd.ntmps11
      go_wp2
      go_ret2
      exact ⟨ret_hdr HR.out.1 HR.out.2, (Mod.refl _ _).alloc _⟩
    · have HR := hid (show hdrRes f c = ⟨#[]⟩ ∧ hdrErr f c = 7 by unfold hdrRes hdrErr; rw [hno]; exact ⟨rfl, rfl⟩)
      clear hno ht
      go_enter Tryd.func11, Tryd.ntmps11
      go_wp2
      go_ret2
      exact ⟨ret_hdr HR.out.1 HR.out.2, (Mod.refl _ _).alloc _⟩
    · have HR := hid (show hdrRes f c = ⟨#[]⟩ ∧ hdrErr f c = 7 by unfold hdrRes hdrErr; rw [hno]; exact ⟨rfl, rfl⟩)
      clear hno ht
      go_enter Tryd.func11, Tryd.ntmps11
      go_wp2
      go_ret2
      exact ⟨ret_hdr HR.out.1 HR.out.2, (Mod.refl _ _).alloc _⟩
end Go.Proofs.YtnhgichiedninaaDoor
