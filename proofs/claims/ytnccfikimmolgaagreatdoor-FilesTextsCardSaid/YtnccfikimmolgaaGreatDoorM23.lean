/-
  Several texts in one, in their build order. The walk of Format of package files, for every list. Conditions: the list lies as told; the library's table is as laid.
-/
import Derived.Test.YtnccfikimmolgaaGreatDoorM22
import Derived.Test.YtnccfikimmolgaaGreatDoorM4
import Derived.Test.YtnccfikimmolgaaGreatDoorM3
import Derived.Deep.RegionHeld3
import Derived.Laws.Concat
namespace Go.Proofs.YtnccfikimmolgaaGreatDoor
set_option linter.unusedSimpArgs false
set_option linter.unusedVariables false
open Go.RowKit Go.Shelf

/-- What is told of a valid list's file. -/
def GoodT (f : FileV) : Prop := 0 ≤ f.len ∧ f.len ≤ 65536 ∧ f.path.length ≤ 8 ∧ (joinB f.path).size ≤ 360 ∧ (fmtLine f).length ≤ 361
theorem good_of {l : List FileV} (h : validOf l = true) : ∀ f ∈ l, GoodT f := by
  intro f hf
  obtain ⟨a, b, c, d, e⟩ := valid_file h f hf
  obtain ⟨-, -, q⟩ := bare_ok a b c d e
  have hj : (joinB f.path).size = (joinB f.path).data.toList.length := by rw [Array.length_toList]; rfl
  refine ⟨a, b, d, ?_, ?_⟩
  · rw [hj]
    unfold bareLine at q
    simp only [List.length_append] at q
    omega
  · rw [fmt_bare, List.length_append, List.length_cons]
    simp only [List.length_nil]
    omega
theorem fmt_len : ∀ {l : List FileV}, (∀ f ∈ l, GoodT f) → (l.flatMap fmtLine).length ≤ 361 * l.length
  | [], _ => by simp
  | f :: r, h => by
    have h1 := fmt_len (l := r) (fun g hg => h g (by simp [hg]))
    have h2 := (h f (by simp)).2.2.2.2
    rw [List.flatMap_cons, List.length_append, List.length_cons]
    omega
theorem fmt_next {l : List FileV} {k : Nat} (h : k < l.length) : (l.take (k + 1)).flatMap fmtLine = (l.take k).flatMap fmtLine ++ fmtLine l[k] := by
  rw [List.take_succ_eq_append_getElem h, List.flatMap_append]
  simp
def tailLine (f : FileV) : ByteArray := itoaB f.len ++ ⟨#[32]⟩ ++ joinB f.path ++ ⟨#[10]⟩
theorem tailLine_data (f : FileV) : fmtLine f = (if f.pad then [42] else []) ++ (tailLine f).data.toList := by
  simp [fmtLine, tailLine, itoaB, List.append_assoc]
/-- What the walk of a line needs of the world. -/
structure Fm (w Q : World) (xb b0 : Nat) (pa : Option Addr) (pc : Nat) (f : FileV) (acc : List UInt8) (pv : Bool) : Prop where
  n : New w Q
  x : Blk Q xb #[.slice pa f.path.length pc, .int .i64 f.len, .bool pv] 51
  b : Bld Q b0 acc
theorem Fm.new {w Q Q' : World} {xb b0 : Nat} {pa : Option Addr} {pc : Nat} {f : FileV} {acc : List UInt8} {pv : Bool} (h : Fm w Q xb b0 pa pc f acc pv) (n : New Q Q') : Fm w Q' xb b0 pa pc f acc pv := ⟨h.n.trans n, n.blk h.x, h.b.new n⟩
theorem Fm.drew {w Q : World} {xb b0 : Nat} {pa : Option Addr} {pc : Nat} {f : FileV} {acc : List UInt8} {pv : Bool} (h : Fm w Q xb b0 pa pc f acc pv) : Fm w Q.drew xb b0 pa pc f acc pv := h.new (Mod.drew (Mod.refl _ _))
theorem Fm.wrote {w Q Q' : World} {xb b0 : Nat} {pa : Option Addr} {pc : Nat} {f : FileV} {acc acc' : List UInt8} {pv : Bool} (h : Fm w Q xb b0 pa pc f acc pv) (n : Wrote b0 Q Q') (hx : xb ≠ b0) (hb : w.heap.size ≤ b0) (b : Bld Q' b0 acc') : Fm w Q' xb b0 pa pc f acc' pv :=
  ⟨Wrote.new h.n n hb, n.blk h.x hx (by decide), b⟩
theorem Fm.cells {w Q : World} {xb b0 : Nat} {pa : Option Addr} {pc : Nat} {f : FileV} {acc : List UInt8} {pv : Bool} (h : Fm w Q xb b0 pa pc f acc pv) : Q.cell? ⟨xb, 0, none⟩ = some (.slice pa f.path.length pc) ∧ Q.cell? ⟨xb, 1, none⟩ = some (.int .i64 f.len) := ⟨h.x.cellv 0 rfl, h.x.cellv 1 rfl⟩
set_option maxRecDepth 100000 in
set_option maxHeartbeats 4000000 in
theorem Format_any (a : Option Addr) (c : Nat) (l : List FileV) (w : World) (h : FilesAt w a c l) (ht : Tab w) :
    Calls Tryz.prog 23 #[.slice a l.length c] w fun e w' => e = .returned (.string ⟨(fmtOf l).toArray⟩) ∧ New w w' := by
  cases hv : validOf l with
  | false =>
    have HV := hid (hv ▸ valid_any a c l w h ht : Calls Tryz.prog 27 #[.slice a l.length c] w fun e w' => e = .returned (.bool false) ∧ New w w')
    have e : fmtOf l = [] := by simp [fmtOf, hv]
    rw [e]
    clear h ht hv e
    go_enter Tryz.func23, Tryz.ntmps23
    go_wp2_with fail
    refine HV.out.mono ?_
    rintro e w1 ⟨rfl, n1⟩
    have N1 := hid n1
    clear n1
    go_wp2
    go_ret
    exact ⟨rfl, N1.out⟩
  | true =>
    have HV := hid (hv ▸ valid_any a c l w h ht : Calls Tryz.prog 27 #[.slice a l.length c] w fun e w' => e = .returned (.bool true) ∧ New w w')
    have hgd := good_of hv
    obtain ⟨v1, v2, -, -⟩ := valid_facts hv
    have e : fmtOf l = l.flatMap fmtLine := by simp [fmtOf, hv]
    rw [e]
    have hr := h.room; have hc := h.cap
    unfold maxLen at hc
    obtain ⟨b1, o1, rfl, hb1, hc1⟩ := h.get (by omega)
    have HC1 := hid hc1; have HGD := hid hgd
    have HTB := hid (fun W (n : New w W) => ht.new n)
    obtain ⟨X, hX⟩ : ∃ X, X = l.flatMap fmtLine := ⟨_, rfl⟩
    rw [← hX]
    have HX := hid hX
    clear h ht hv e hc1 hgd hX
    go_enter Tryz.func23, Tryz.ntmps23
    go_wp2_with fail
    refine HV.out.mono ?_
    rintro e w1 ⟨rfl, n1⟩
    have N1 := hid n1
    clear n1
    go_wp2
    obtain ⟨b0, hb0⟩ : ∃ b0, b0 = w1.heap.size := ⟨_, rfl⟩
    have HB0 := hid (show w.heap.size ≤ b0 by rw [hb0]; exact N1.out.size)
    have HFR := hid (Bld.freshAt hb0)
    rw [← hb0]
    clear hb0
    go_loopw [11] (fun x wr => ∃ (j : Nat), x = .int .i64 j ∧ j ≤ l.length ∧ Bld wr b0 ((l.take j).flatMap fmtLine) ∧ New w wr) (fun x _ => l.length - (intOf x).toNat)
    case atStart => exact ⟨0, rfl, by omega, by rw [List.take_zero]; exact HFR.out, N1.out.alloc _⟩
    case round =>
      clear HFR N1
      obtain ⟨j, rfl, hj, hbl, hn⟩ := hrel
      have HBL := hid hbl; have HN := hid hn
      by_cases hlt : j < l.length
      · obtain ⟨pa, pc, d0, d1, d2, hst, -⟩ := HC1.out j hlt
        have d0 := hn.cellv d0; have d1 := hn.cellv d1; have d2 := hn.cellv d2
        have HNX := hid (fmt_next hlt)
        have hgd := HGD.out _ (List.getElem_mem hlt)
        have hacc := fmt_len (l := l.take j) (fun f hf => HGD.out f (List.mem_of_mem_take hf))
        rw [List.length_take] at hacc
        have hbw1 : b1 < wr.heap.size := by have := hn.size; omega
        have hbb := hbl.lt
        have hjI : (j : Int) < (l.length : Int) := by omega
        obtain ⟨f, hf⟩ : ∃ f, f = l[j] := ⟨_, rfl⟩
        rw [← hf] at d0 d1 d2 hst HNX hgd
        obtain ⟨acc, hac⟩ : ∃ acc, acc = (l.take j).flatMap fmtLine := ⟨_, rfl⟩
        rw [← hac] at HBL HNX hacc
        have hacc2 : acc.length ≤ 20000 := by omega
        obtain ⟨g1, g2, g3, g4, g5⟩ := hgd
        have HST := hid hst
        rw [tailLine_data] at HNX
        clear hbl hn hf hac hacc hst g5
        obtain ⟨xb, hxb⟩ : ∃ xb, xb = wr.heap.size := ⟨_, rfl⟩
        have HXB := hid (show xb ≠ b0 by omega)
        have HIT := hid (fun W (n : New w W) => itoa_any f.len (by omega) (by omega) W (HTB.out W n))
        have HPT := hid (fun W (n : New w W) => path_any pa pc f.path W (HST.out.new n) (by omega) (by omega))
        have hz1 := itoa_size (n := f.len) (by omega) (by omega)
        have hts : (tailLine f).size ≤ 400 := by
          unfold tailLine
          simp only [ByteArray.size_append]
          have q1 : (⟨#[32]⟩ : ByteArray).size = 1 := rfl
          have q2 : (⟨#[10]⟩ : ByteArray).size = 1 := rfl
          omega
        have HTL := hid (show acc.length + 1 + (tailLine f).size ≤ 140737488355328 by omega)
        have hq1 : (⟨#[32]⟩ : ByteArray).size = 1 := rfl
        have hq2 : (⟨#[10]⟩ : ByteArray).size = 1 := rfl
        have hadd1 : ∀ w, (Op.stringOp .add (itoaB f.len) ⟨#[32]⟩).run Tryz.prog w = .ok (.string (itoaB f.len ++ ⟨#[32]⟩)) w := fun w => run_string_add_sum (w := w) _ _ (by omega)
        have hadd2 : ∀ w, (Op.stringOp .add (itoaB f.len ++ ⟨#[32]⟩) (joinB f.path)).run Tryz.prog w = .ok (.string (itoaB f.len ++ ⟨#[32]⟩ ++ joinB f.path)) w := fun w => run_string_add_sum (w := w) _ _ (by rw [ByteArray.size_append]; omega)
        have hadd3 : ∀ w, (Op.stringOp .add (itoaB f.len ++ ⟨#[32]⟩ ++ joinB f.path) ⟨#[10]⟩).run Tryz.prog w = .ok (.string (tailLine f)) w := fun w => run_string_add_sum (w := w) _ _ (by rw [ByteArray.size_append, ByteArray.size_append]; omega)
        clear hq1 hq2 hz1 hts
        cases hp : f.pad with
        | false =>
          rw [hp] at d2
          rw [hp, if_neg (by decide), List.nil_append] at HNX
          have K0 : Hid (Fm w (wr.alloc (.cells #[.slice pa f.path.length pc, .int .i64 f.len, .bool false] 51)) xb b0 pa pc f acc false) := hid ⟨HN.out.alloc _, by rw [hxb]; exact Blk.new _ _ _, HBL.out.new ((Mod.refl _ _).alloc _)⟩
          have HTL2 := hid (show ([42] : List UInt8).length = 1 from rfl)
          clear hp
          go_wp2
          rw [← hxb]
          clear hxb
          go_region_held3 (fun w' => w'.cell? ⟨xb, 0, none⟩ = some (.slice pa f.path.length pc) ∧ w'.cell? ⟨xb, 1, none⟩ = some (.int .i64 f.len)) ((first | exact KW.out.cells | exact KP.out.cells | exact KI.out.cells | exact K0.out.drew.cells | go_keep)) ((first | (go_at_call 52; (with_reducible refine (HIT.out _ ?_).mono ?_); (focus (first | exact KP.out.n | exact K0.out.drew.n)); rintro e wi ⟨rfl, ni⟩; have KI : Hid (Fm w wi xb b0 pa pc f (acc) false) := hid (by first | exact KP.out.new ni | exact K0.out.drew.new ni)) | (go_at_call 25; (with_reducible refine (HPT.out _ ?_).mono ?_); (focus (first | exact KI.out.n | exact K0.out.drew.n)); rintro e wp ⟨rfl, np⟩; have KP : Hid (Fm w wp xb b0 pa pc f (acc) false) := hid (by first | exact KI.out.new np | exact K0.out.drew.new np)) | (go_at_call 51; (with_reducible refine (write_any b0 (acc) _ _ ?_ ?_).mono ?_); (focus (first | exact KP.out.b | exact KI.out.b)); (focus (have := HTL.out; have := HTL2.out; first | omega | (rw [List.length_append]; omega))); rintro e ww ⟨rfl, bw, nw⟩; have KW : Hid (Fm w ww xb b0 pa pc f ((acc) ++ (tailLine f).data.toList) false) := hid (by first | exact KP.out.wrote nw HXB.out HB0.out bw | exact KI.out.wrote nw HXB.out HB0.out bw))))
          all_goals clear hadd1 hadd2 hadd3
          all_goals go_wp2
          all_goals
            go_roundw
            case rel => exact ⟨j + 1, by simp, by omega, by rw [HNX.out]; exact KW.out.b, KW.out.n⟩
            case measure => simp [intOf]; omega
        | true =>
          rw [hp] at d2
          rw [hp, if_pos rfl] at HNX
          have K9 : Hid (Fm w (wr.alloc (.cells #[.slice pa f.path.length pc, .int .i64 f.len, .bool true] 51)) xb b0 pa pc f acc true) := hid ⟨HN.out.alloc _, by rw [hxb]; exact Blk.new _ _ _, HBL.out.new ((Mod.refl _ _).alloc _)⟩
          clear hp
          go_wp2_with fail
          rw [← hxb]
          clear hxb
          refine (byte_any b0 acc 42 _ K9.out.b (by omega)).mono ?_
          rintro e w4 ⟨rfl, b4, n4⟩
          have K0 := hid (K9.out.wrote n4 HXB.out HB0.out b4)
          have HTL2 := hid (show ([42] : List UInt8).length = 1 from rfl)
          rw [← List.append_assoc] at HNX
          clear b4 n4
          go_wp2
          go_region_held3 (fun w' => w'.cell? ⟨xb, 0, none⟩ = some (.slice pa f.path.length pc) ∧ w'.cell? ⟨xb, 1, none⟩ = some (.int .i64 f.len)) ((first | exact KW.out.cells | exact KP.out.cells | exact KI.out.cells | exact K0.out.drew.cells | go_keep)) ((first | (go_at_call 52; (with_reducible refine (HIT.out _ ?_).mono ?_); (focus (first | exact KP.out.n | exact K0.out.drew.n)); rintro e wi ⟨rfl, ni⟩; have KI : Hid (Fm w wi xb b0 pa pc f (acc ++ [42]) true) := hid (by first | exact KP.out.new ni | exact K0.out.drew.new ni)) | (go_at_call 25; (with_reducible refine (HPT.out _ ?_).mono ?_); (focus (first | exact KI.out.n | exact K0.out.drew.n)); rintro e wp ⟨rfl, np⟩; have KP : Hid (Fm w wp xb b0 pa pc f (acc ++ [42]) true) := hid (by first | exact KI.out.new np | exact K0.out.drew.new np)) | (go_at_call 51; (with_reducible refine (write_any b0 (acc ++ [42]) _ _ ?_ ?_).mono ?_); (focus (first | exact KP.out.b | exact KI.out.b)); (focus (have := HTL.out; have := HTL2.out; first | omega | (rw [List.length_append]; omega))); rintro e ww ⟨rfl, bw, nw⟩; have KW : Hid (Fm w ww xb b0 pa pc f ((acc ++ [42]) ++ (tailLine f).data.toList) true) := hid (by first | exact KP.out.wrote nw HXB.out HB0.out bw | exact KI.out.wrote nw HXB.out HB0.out bw))))
          all_goals clear hadd1 hadd2 hadd3
          all_goals go_wp2
          all_goals
            go_roundw
            case rel => exact ⟨j + 1, by simp, by omega, by rw [HNX.out]; exact KW.out.b, KW.out.n⟩
            case measure => simp [intOf]; omega
      · have hjl : l.take j = l := List.take_of_length_le (by omega)
        rw [hjl] at HBL
        clear hjl hbl hn
        go_wp2_with fail
        refine (string_any _ _ _ HBL.out).mono ?_
        rintro e w4 ⟨rfl, -, n4⟩
        have N4 := hid n4
        clear n4
        go_wp2
        go_ret
        exact ⟨ret_str (by rw [HX.out]), Wrote.new HN.out N4.out HB0.out⟩
end Go.Proofs.YtnccfikimmolgaaGreatDoor
