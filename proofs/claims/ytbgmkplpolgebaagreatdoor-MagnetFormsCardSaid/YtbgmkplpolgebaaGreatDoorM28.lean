/-
  Several texts in one, in their build order. The walk of the function that reads a magnet's runs (package magnet). Conditions: the reader lies as told; the text is small; the library's variables are as laid. The walk of Parse on the one text by which the law looks whether the program is awake. Condition: the library's variable is as laid. The walk of Parse on the law's text, and of awake. Condition: the library's variable is as laid. The walk of Parse (package magnet), for any text. Conditions: the library's variables are as laid.
-/
import Derived.Test.YtbgmkplpolgebaaGreatDoorM27
import Derived.Lib.ReplaceLaws
import Derived.Test.YtbgmkplpolgebaaGreatDoorM8
import Derived.Test.YtbgmkplpolgebaaGreatDoorM22
namespace Go.Proofs.YtbgmkplpolgebaaGreatDoor
set_option linter.unusedSimpArgs false
set_option linter.unusedVariables false
open Go.RowKit Go.Shelf

theorem soM_1 {m : MgV} {s : List UInt8} (h : bitsP 40 (rep2 s) = none) : soM m s = .error 2 := by unfold soM; rw [h]
theorem soM_2 {m : MgV} {s f : List UInt8} (h : bitsP 40 (rep2 s) = some f) (h0 : rep2 s = []) : soM m s = .error 2 := by unfold soM; rw [h]; simp only; rw [if_pos h0]
theorem soM_3 {m : MgV} {s f : List UInt8} (h : bitsP 40 (rep2 s) = some f) (h0 : rep2 s ≠ []) (ho : m.only = true) : soM m s = .error 6 := by unfold soM; rw [h]; simp only; rw [if_neg h0, if_pos ho]
theorem soM_4 {m : MgV} {s f : List UInt8} (h : bitsP 40 (rep2 s) = some f) (h0 : rep2 s ≠ []) (ho : m.only = false) : soM m s = .ok { m with on := runsF 40 f, only := true } := by unfold soM; rw [h]; simp only; rw [if_neg h0, if_neg (by rw [ho]; decide)]
theorem rep2_len (s : List UInt8) : (rep2 s).length ≤ s.length := by
  rw [← rep2_eq s.length s rfl]
  exact Nat.le_trans (rep_len 99 _ _ rfl) (rep_len 67 _ _ rfl)
theorem mkB_size (l : List UInt8) : (mkB l).size = l.length := size_list l
/-- One replacement. -/
theorem rep_any (c : UInt8) (s : ByteArray) (w : World) (hv : VarP w) (hs : s.size ≤ 70000) :
    Calls Tryz.prog 82 #[.string s, .string ⟨#[37, 50, c]⟩, .string ⟨#[44]⟩] w fun e w' => e = .returned (.string (mkB (rep c s.data.toList))) ∧ New w w' := by
  obtain ⟨m, hm⟩ := hv.max
  have hc : Lib.countB s ⟨#[37, 50, c]⟩ ≤ s.size := Lib.countB_le _ (by show 1 ≤ 3; omega) _ s (Nat.le_refl _)
  refine (Tryz.strings_ReplaceAll s ⟨#[37, 50, c]⟩ ⟨#[44]⟩ m w (by omega) hm (by show 1 ≤ 3; omega) (by rw [show (⟨#[44]⟩ : ByteArray).size = 1 from rfl]; omega)).mono ?_
  rintro e w' ⟨rfl, hb⟩
  refine ⟨?_, Mod.newOfM (Mod.of_below hb) (fun k h1 h2 => by omega)⟩
  rw [show (⟨#[37, 50, c]⟩ : ByteArray).data.toList = [37, 50, c] from rfl, show (⟨#[44]⟩ : ByteArray).data.toList = [44] from rfl, repAll]
  rfl
set_option maxRecDepth 100000 in
set_option maxHeartbeats 4000000 in
theorem so_part (B base : Nat) (m : MgV) (r : RdM) (s : ByteArray) (w : World) (h : RdIs 49 w B base m r) (hs : s.size ≤ 65536) (hbs : base ≤ w.heap.size) (hv : VarP w) :
    Calls Tryz.prog 81 #[.pointer (some ⟨B, 0, none⟩), .string s] w fun e w' => PartQ B base w (soM m s.data.toList) e w' := by
  have H := hid h
  have HON := hid h.only
  have HMM : Hid (∀ W, New w W → Mod (fun k => k = B ∨ base ≤ k) w W) := hid (fun W n => New.mod n)
  have hlen : s.data.toList.length = s.size := by rw [Array.length_toList]; rfl
  have h67 := rep_len 67 _ s.data.toList rfl
  have hr2 := rep2_len s.data.toList
  have HR1 := hid (rep_any 67 s w hv (by omega))
  have HR2 := hid (fun W (n : New w W) => rep_any 99 (mkB (rep 67 s.data.toList)) W (hv.new n) (by rw [mkB_size]; omega))
  rw [show (mkB (rep 67 s.data.toList)).data.toList = rep 67 s.data.toList from rfl, rep2_eq _ s.data.toList rfl] at HR2
  have HBP := hid (fun W (n : New w W) => bParse_any 40 (mkB (rep2 s.data.toList)) W (by omega) (by rw [mkB_size]; omega) (hv.new n))
  rw [show (mkB (rep2 s.data.toList)).data.toList = rep2 s.data.toList from rfl] at HBP
  have HRU := hid (fun W f (n : New w W) (q : FieldOf 40 f) => bRuns_any 40 (mkB f) W q (by omega))
  have hs1 : (mkB (rep 67 s.data.toList)).size ≤ 65536 := by rw [mkB_size]; omega
  obtain ⟨X, hX⟩ : ∃ X, X = soM m s.data.toList := ⟨_, rfl⟩
  rw [← hX]
  have HXX := hid hX
  have HX1 := hid (fun q => hX.trans (soM_1 (m := m) (s := s.data.toList) q))
  have HX2 := hid (fun f q q2 => hX.trans (soM_2 (m := m) (s := s.data.toList) (f := f) q q2))
  have HX3 := hid (fun f q q2 q3 => hX.trans (soM_3 (m := m) (s := s.data.toList) (f := f) q q2 q3))
  have HX4 := hid (fun f q q2 q3 => hX.trans (soM_4 (m := m) (s := s.data.toList) (f := f) q q2 q3))
  obtain ⟨R, hR⟩ : ∃ R, R = rep2 s.data.toList := ⟨_, rfl⟩
  obtain ⟨R1, hR1⟩ : ∃ R1, R1 = mkB (rep 67 s.data.toList) := ⟨_, rfl⟩
  rw [← hR] at HBP HX1 HX2 HX3 HX4 HR2
  have hR1' : mkB (rep 67 s.data.toList) = R1 := hR1.symm
  rw [hR1'] at HR1 HR2
  have hRs : (mkB R).size ≤ 65536 := by rw [mkB_size, hR]; omega
  clear h hX hv h67 hr2 hR hR1 hR1' hs1
  by_cases h0 : R = []
  · have hte : ((mkB R).toList == []) = true := by rw [beq_iff_eq, ByteArray.toList_eq]; exact h0
    have htI : (mkB R).toList.isEmpty = true := by rw [ByteArray.toList_eq, show (mkB R).data.toList = R from rfl, h0]; rfl
    have hne : ((mkB R).toList != []) = false := by rw [bne, hte]; rfl
    cases hb : bitsP 40 R with
    | none =>
      have HXN := hid (HX1.out hb)
      rw [hb, bpE] at HBP
      clear h0 hb
      go_enter Tryz.func81, Tryz.ntmps81
      go_wp2_with fail
      refine HR1.out.mono ?_
      rintro e w1 ⟨rfl, n1⟩
      have N1 := hid n1
      clear n1
      go_wp2_with fail
      refine (HR2.out _ N1.out).mono ?_
      rintro e w2 ⟨rfl, n2⟩
      have N2 := hid (N1.out.trans n2)
      clear n2
      go_wp2_with fail
      refine (HBP.out _ N2.out).mono ?_
      rintro e w3 ⟨rfl, n3⟩
      have N3 := hid (N2.out.trans n3)
      have H3 := hid (H.out.next N3.out)
      have b8 : w3.cell? ⟨B, 8, none⟩ = some (.bool r.only) := H3.out.blk.cellv 8 rfl
      rw [HON.out] at b8
      clear n3
      go_wp2_with fail
      refine (need_no 2 _).mono ?_
      rintro e w4 ⟨rfl, rfl⟩
      go_wp2
      exact ⟨rfl, PartQ.no HXN.out (HMM.out _ N3.out)⟩
    | some f =>
      have HXN := hid (HX2.out f hb h0)
      rw [hb, bpE] at HBP
      clear h0 hb
      go_enter Tryz.func81, Tryz.ntmps81
      go_wp2_with fail
      refine HR1.out.mono ?_
      rintro e w1 ⟨rfl, n1⟩
      have N1 := hid n1
      clear n1
      go_wp2_with fail
      refine (HR2.out _ N1.out).mono ?_
      rintro e w2 ⟨rfl, n2⟩
      have N2 := hid (N1.out.trans n2)
      clear n2
      go_wp2_with fail
      refine (HBP.out _ N2.out).mono ?_
      rintro e w3 ⟨rfl, n3⟩
      have N3 := hid (N2.out.trans n3)
      have H3 := hid (H.out.next N3.out)
      have b8 : w3.cell? ⟨B, 8, none⟩ = some (.bool r.only) := H3.out.blk.cellv 8 rfl
      rw [HON.out] at b8
      clear n3
      go_wp2_with fail
      refine (need_no 2 _).mono ?_
      rintro e w4 ⟨rfl, rfl⟩
      go_wp2
      exact ⟨rfl, PartQ.no HXN.out (HMM.out _ N3.out)⟩
  · have hte : ((mkB R).toList == []) = false := by rw [beq_eq_false_iff_ne, ByteArray.toList_eq]; exact h0
    have htI : (mkB R).toList.isEmpty = false := by
      rw [ByteArray.toList_eq, show (mkB R).data.toList = R from rfl]
      cases R with
      | nil => exact absurd rfl h0
      | cons x y => rfl
    have hne : ((mkB R).toList != []) = true := by rw [bne, hte]; rfl
    cases hb : bitsP 40 R with
    | none =>
      have HXN := hid (HX1.out hb)
      rw [hb, bpE] at HBP
      clear h0 hb
      go_enter Tryz.func81, Tryz.ntmps81
      go_wp2_with fail
      refine HR1.out.mono ?_
      rintro e w1 ⟨rfl, n1⟩
      have N1 := hid n1
      clear n1
      go_wp2_with fail
      refine (HR2.out _ N1.out).mono ?_
      rintro e w2 ⟨rfl, n2⟩
      have N2 := hid (N1.out.trans n2)
      clear n2
      go_wp2_with fail
      refine (HBP.out _ N2.out).mono ?_
      rintro e w3 ⟨rfl, n3⟩
      have N3 := hid (N2.out.trans n3)
      have H3 := hid (H.out.next N3.out)
      have b8 : w3.cell? ⟨B, 8, none⟩ = some (.bool r.only) := H3.out.blk.cellv 8 rfl
      rw [HON.out] at b8
      clear n3
      go_wp2_with fail
      refine (need_no 2 _).mono ?_
      rintro e w4 ⟨rfl, rfl⟩
      go_wp2
      exact ⟨rfl, PartQ.no HXN.out (HMM.out _ N3.out)⟩
    | some f =>
      rw [hb, bpE] at HBP
      have HF := hid (bitsP_field hb)
      cases hon : m.only with
      | true =>
        have HXN := hid (HX3.out f hb h0 hon)
        rw [hon] at HON
        clear h0 hb hon
        go_enter Tryz.func81, Tryz.ntmps81
        go_wp2_with fail
        refine HR1.out.mono ?_
        rintro e w1 ⟨rfl, n1⟩
        have N1 := hid n1
        clear n1
        go_wp2_with fail
        refine (HR2.out _ N1.out).mono ?_
        rintro e w2 ⟨rfl, n2⟩
        have N2 := hid (N1.out.trans n2)
        clear n2
        go_wp2_with fail
        refine (HBP.out _ N2.out).mono ?_
        rintro e w3 ⟨rfl, n3⟩
        have N3 := hid (N2.out.trans n3)
        have H3 := hid (H.out.next N3.out)
        have b8 : w3.cell? ⟨B, 8, none⟩ = some (.bool r.only) := H3.out.blk.cellv 8 rfl
        rw [HON.out] at b8
        clear n3
        go_wp2_with fail
        refine (need_yes 2 _).mono ?_
        rintro e w4 ⟨rfl, rfl⟩
        go_wp2_with fail
        refine (need_no 6 _).mono ?_
        rintro e w4 ⟨rfl, rfl⟩
        go_wp2
        exact ⟨rfl, PartQ.no HXN.out (HMM.out _ N3.out)⟩
      | false =>
        have HXN := hid (HX4.out f hb h0 hon)
        have HON2 := hid hon
        rw [hon] at HON
        clear h0 hb hon
        go_enter Tryz.func81, Tryz.ntmps81
        go_wp2_with fail
        refine HR1.out.mono ?_
        rintro e w1 ⟨rfl, n1⟩
        have N1 := hid n1
        clear n1
        go_wp2_with fail
        refine (HR2.out _ N1.out).mono ?_
        rintro e w2 ⟨rfl, n2⟩
        have N2 := hid (N1.out.trans n2)
        clear n2
        go_wp2_with fail
        refine (HBP.out _ N2.out).mono ?_
        rintro e w3 ⟨rfl, n3⟩
        have N3 := hid (N2.out.trans n3)
        have H3 := hid (H.out.next N3.out)
        have b8 : w3.cell? ⟨B, 8, none⟩ = some (.bool r.only) := H3.out.blk.cellv 8 rfl
        rw [HON.out] at b8
        clear n3
        go_wp2_with fail
        refine (need_yes 2 _).mono ?_
        rintro e w4 ⟨rfl, rfl⟩
        go_wp2_with fail
        refine (need_yes 6 _).mono ?_
        rintro e w4 ⟨rfl, rfl⟩
        go_wp2_with fail
        refine (HRU.out _ f N3.out HF.out).mono ?_
        rintro e w5 ⟨v, rfl, ho, n5⟩
        rw [show (mkB f).data.toList = f from rfl] at ho
        have hblk : ∀ k, v.ownBlock = some k → w3.heap.size ≤ k := fun k q => (rowBlock ho q).1
        obtain ⟨va, vc, rfl, -⟩ := ho.form
        have hRd := RdIs.onPut H3.out n5 (ho.base (Nat.le_trans hbs N3.out.size)) hblk
        have hB5 := New.blk n5 H3.out.blk
        have d6 : w5.cell? ⟨B, 6, none⟩ = some r.on := hB5.cellv 6 rfl
        have d8 : w5.cell? ⟨B, 8, none⟩ = some (.bool r.only) := hB5.cellv 8 rfl
        have bl := hB5.lt
        have bf := hB5.frz
        have HRD := hid hRd
        have N5 := hid (N3.out.trans n5)
        clear ho n5 hblk hRd hB5 b8
        go_wp2
        go_end0
        refine PartQ.yes HXN.out (r := { { r with on := .slice va (runsF 40 f).length vc } with only := true }) (HRD.out.turn ((Mod.refl _ _).set _ _ (.inl rfl)) ((HRD.out.blk.set 8 (.bool true)).row rfl) rfl rfl rfl rfl rfl rfl rfl rfl HRD.out.old HRD.out.new HRD.out.name HRD.out.named rfl) (((HMM.out _ N5.out).set _ _ (.inl (.inl rfl))).set _ _ (.inl (.inl rfl)))
end Go.Proofs.YtbgmkplpolgebaaGreatDoor

namespace Go.Proofs.YtbgmkplpolgebaaGreatDoor
set_option linter.unusedSimpArgs false
set_option linter.unusedVariables false
open Go.RowKit Go.Shelf

def kA : ByteArray := ⟨#[109, 97, 103, 110, 101, 116, 58, 63, 120, 116, 61, 117, 114, 110, 58, 99, 118, 111, 58, 48, 48, 48, 48, 48, 48, 48, 48, 48, 48, 48, 48, 48, 48, 48, 48, 48, 48, 48, 48, 48, 48, 48, 48, 48, 48, 48, 48, 48, 48, 48, 48, 48, 48, 48, 48, 48, 48, 48, 48, 38, 100, 110, 61, 97, 37, 50, 48, 98]⟩
def kR : ByteArray := ⟨#[120, 116, 61, 117, 114, 110, 58, 99, 118, 111, 58, 48, 48, 48, 48, 48, 48, 48, 48, 48, 48, 48, 48, 48, 48, 48, 48, 48, 48, 48, 48, 48, 48, 48, 48, 48, 48, 48, 48, 48, 48, 48, 48, 48, 48, 48, 48, 48, 48, 48, 48, 38, 100, 110, 61, 97, 37, 50, 48, 98]⟩
def kP0 : ByteArray := ⟨#[120, 116, 61, 117, 114, 110, 58, 99, 118, 111, 58, 48, 48, 48, 48, 48, 48, 48, 48, 48, 48, 48, 48, 48, 48, 48, 48, 48, 48, 48, 48, 48, 48, 48, 48, 48, 48, 48, 48, 48, 48, 48, 48, 48, 48, 48, 48, 48, 48, 48, 48]⟩
def kP1 : ByteArray := ⟨#[100, 110, 61, 97, 37, 50, 48, 98]⟩
def kV0 : ByteArray := ⟨#[117, 114, 110, 58, 99, 118, 111, 58, 48, 48, 48, 48, 48, 48, 48, 48, 48, 48, 48, 48, 48, 48, 48, 48, 48, 48, 48, 48, 48, 48, 48, 48, 48, 48, 48, 48, 48, 48, 48, 48, 48, 48, 48, 48, 48, 48, 48, 48]⟩
def kV1 : ByteArray := ⟨#[97, 37, 50, 48, 98]⟩
def kZ : ByteArray := ⟨#[0, 0, 0, 0, 0, 0, 0, 0, 0, 0, 0, 0, 0, 0, 0, 0, 0, 0, 0, 0]⟩
def kN : ByteArray := ⟨#[97, 32, 98]⟩
def rdA : RdM := ⟨⟨#[]⟩, ⟨#[]⟩, ⟨#[]⟩, .slice none 0 0, .slice none 0 0, .slice none 0 0, .slice none 0 0, false, false⟩
def rdB : RdM := { rdA with old := kZ }
def rdC : RdM := { rdB with name := kN, named := true }
/-- What the library's variable is. -/
def VarM (w : World) : Prop := ∃ m : Int, w.cell? ⟨0, 0, none⟩ = some (.int .i64 m)
theorem VarM.new {w w' : World} (h : VarM w) (n : New w w') : VarM w' := by
  obtain ⟨m, hm⟩ := h
  exact ⟨m, New.cellv n hm⟩
theorem k_topic : topicR rdA kV0 = .ok rdB := by
  have h1 : isU uOld kV0 = true := by decide +kernel
  have h2 : (digU uOld kV0).size = 40 := by decide +kernel
  have h3 : hexC (digU uOld kV0).data.toList = some kZ.data.toList := by decide +kernel
  have h4 : isU uNew kV0 = false := by decide +kernel
  have h5 : tO rdA kV0 = .ok rdB := by
    unfold tO
    rw [if_pos h1, if_neg (by omega), h3]
    simp only
    rw [if_neg (by decide +kernel)]
    rfl
  rw [topic_yes h5]
  unfold tN
  rw [if_neg (by rw [h4]; decide)]
theorem k_dn : dnR rdB kV1.data.toList = .ok rdC := by
  have h : loose kV1.data.toList = some kN.data.toList := by
    show loose [97, 37, 50, 48, 98] = _
    rw [loose_plain (by decide), loose_hex, show hexC [50, 48] = some [32] by decide +kernel]
    simp only
    rw [loose_plain (by decide), loose_nil]
    rfl
  unfold dnR
  rw [h]
  simp only
  rw [if_neg (by decide +kernel), if_neg (by decide)]
  rfl
theorem k_split : Lib.splitB ⟨#[38]⟩ 0 (Lib.countB kR ⟨#[38]⟩) kR = [kP0, kP1] := by decide +kernel
theorem k_count : Lib.countB kR ⟨#[38]⟩ = 1 := by decide +kernel
theorem k_prefix (W : World) : Calls Tryz.prog 22 #[.string kA, .string ⟨#[109, 97, 103, 110, 101, 116, 58, 63]⟩] W fun e w' => e = .returned (.tuple #[.string kR, .bool true]) ∧ W = w' := by
  refine (Tryz.strings_CutPrefix kA _ W).mono ?_
  rintro e w' ⟨rfl, rfl⟩
  refine ⟨?_, rfl⟩
  rw [show (⟨(Lib.trimPrefix kA.data.toList (⟨#[109, 97, 103, 110, 101, 116, 58, 63]⟩ : ByteArray).data.toList).toArray⟩ : ByteArray) = kR by decide +kernel, show Lib.hasPrefix kA.data.toList (⟨#[109, 97, 103, 110, 101, 116, 58, 63]⟩ : ByteArray).data.toList = true by decide +kernel]
theorem k_splits (W : World) (h : VarM W) : Calls Tryz.prog 24 #[.string kR, .string ⟨#[38]⟩] W fun e w' => e = .returned (.slice (some ⟨W.heap.size, 0, none⟩) 2 2) ∧ w' = W.alloc (.cells #[.string kP0, .string kP1] 9) := by
  obtain ⟨m, hm⟩ := h
  refine (Tryz.strings_Split kR ⟨#[38]⟩ m W (by decide +kernel) hm (by decide)).mono ?_
  rintro e w' ⟨rfl, rfl⟩
  rw [k_split, k_count]
  exact ⟨rfl, rfl⟩
theorem k_cut0 (W : World) (h : VarM W) : Calls Tryz.prog 25 #[.string kP0, .string ⟨#[61]⟩] W fun e w' => e = .returned (.tuple #[.string pXt, .string kV0, .bool true]) ∧ New W w' := by
  obtain ⟨m, hm⟩ := h
  refine (Tryz.strings_Cut kP0 ⟨#[61]⟩ m W (by decide +kernel) hm).mono ?_
  rintro e w' ⟨rfl, n, rfl⟩
  rw [show (⟨(Lib.cut kP0.data.toList (⟨#[61]⟩ : ByteArray).data.toList).1.toArray⟩ : ByteArray) = pXt by decide +kernel, show (⟨(Lib.cut kP0.data.toList (⟨#[61]⟩ : ByteArray).data.toList).2.1.toArray⟩ : ByteArray) = kV0 by decide +kernel, show (Lib.cut kP0.data.toList (⟨#[61]⟩ : ByteArray).data.toList).2.2 = true by decide +kernel]
  exact ⟨rfl, (Mod.refl _ _).drewN _⟩
theorem k_cut1 (W : World) (h : VarM W) : Calls Tryz.prog 25 #[.string kP1, .string ⟨#[61]⟩] W fun e w' => e = .returned (.tuple #[.string pDn, .string kV1, .bool true]) ∧ New W w' := by
  obtain ⟨m, hm⟩ := h
  refine (Tryz.strings_Cut kP1 ⟨#[61]⟩ m W (by decide +kernel) hm).mono ?_
  rintro e w' ⟨rfl, n, rfl⟩
  rw [show (⟨(Lib.cut kP1.data.toList (⟨#[61]⟩ : ByteArray).data.toList).1.toArray⟩ : ByteArray) = pDn by decide +kernel, show (⟨(Lib.cut kP1.data.toList (⟨#[61]⟩ : ByteArray).data.toList).2.1.toArray⟩ : ByteArray) = kV1 by decide +kernel, show (Lib.cut kP1.data.toList (⟨#[61]⟩ : ByteArray).data.toList).2.2 = true by decide +kernel]
  exact ⟨rfl, (Mod.refl _ _).drewN _⟩
end Go.Proofs.YtbgmkplpolgebaaGreatDoor

namespace Go.Proofs.YtbgmkplpolgebaaGreatDoor
set_option linter.unusedSimpArgs false
set_option linter.unusedVariables false
open Go.RowKit Go.Shelf

def magA : Value := .agg #[.string kZ, .string ⟨#[]⟩, .string kN, .slice none 0 0, .slice none 0 0, .slice none 0 0, .slice none 0 0]
theorem run_equalIn_func_nil {P : Program} (w : World) (d : Nat) {t : TypeId} {p r : Array TypeId} {v : Bool} (f : Fn) (a b : Array Value) (h : P.underlying t = some (.func p r v)) :
    (Op.equalIn (d + 1) t (.func f a b) .nilFunc).run P w = .ok false w := by simp [Op.equalIn, run_underlying h]
theorem neq_fn (f : Fn) (a b : Array Value) (w : World) : (binOp .neq 53 (.func f a b) .nilFunc).run Tryz.prog w = .ok (.bool true) w := by
  simp only [binOp]
  simp [Op.equal, Op.maxDepth, run_equalIn_func_nil w 9999 f a b Tryz.underlying53]
theorem pm_results (tmps : Array Value) (w : World) (p q : Nat) (m0 m1 m2 m3 m4 m5 m6 : Value) (c : Int) (hp : Blk w p #[m0, m1, m2, m3, m4, m5, m6] 27) (hr : Blk w q #[.int .i64 c] 28)
    (h2 : tmps.getD 2 undef = .pointer (some ⟨p, 0, none⟩)) (h3 : tmps.getD 3 undef = .pointer (some ⟨q, 0, none⟩)) :
    (results Tryz.f8 tmps).run Tryz.prog w = .ok (.tuple #[.agg #[m0, m1, m2, m3, m4, m5, m6], .int .i64 c]) w := by
  have p0 := hp.cellv 0 rfl; have p1 := hp.cellv 1 rfl; have p2 := hp.cellv 2 rfl; have p3 := hp.cellv 3 rfl; have p4 := hp.cellv 4 rfl; have p5 := hp.cellv 5 rfl; have p6 := hp.cellv 6 rfl
  obtain ⟨r1, -, -⟩ := hr.one
  have h2' : tmps[2]?.getD undef = .pointer (some ⟨p, 0, none⟩) := by simpa using h2
  have h3' : tmps[3]?.getD undef = .pointer (some ⟨q, 0, none⟩) := by simpa using h3
  simp [results, Tryz.results8, h2', h3', asAddr, go_sem, p0, p1, p2, p3, p4, p5, p6, r1, Result.andThen]
set_option maxRecDepth 100000 in
set_option maxHeartbeats 4000000 in
theorem parse_awake (w : World) (hv : VarM w) : Calls Tryz.prog 8 #[.string kA] w fun e w' => e = .returned (.tuple #[magA, .int .i64 0]) ∧ New w w' := by
  have HV := hid hv
  have hfn := neq_fn
  have hK : ¬ (65536 : Int) < (kA.size : Int) := by decide +kernel
  have hRe : (kR.toList == []) = false := by decide +kernel
  have hZe : (kZ.toList == []) = false := by decide +kernel
  have hadd : ∀ w, (Op.stringOp .add kZ ⟨#[]⟩).run Tryz.prog w = .ok (.string kZ) w := fun w => run_string_add_sum (w := w) _ _ (by decide +kernel)
  have HNA : Hid (New w (((w.alloc (.cells #[.string ⟨#[]⟩, .string ⟨#[]⟩, .string ⟨#[]⟩, .slice none 0 0, .slice none 0 0, .slice none 0 0, .slice none 0 0] 27)).alloc (.cells #[.int .i64 0] 28)).alloc (.cells (rdRow rdA) 49))) := hid (((Mod.refl _ _).alloc _).alloc _ |>.alloc _)
  clear hv
  go_enter_defers Tryz.func8, Tryz.ntmps8
  go_wp2_with fail
  refine (k_prefix _).mono ?_
  rintro e w3 ⟨rfl, rfl⟩
  go_wp2_with fail
  refine (need_yes 2 _).mono ?_
  rintro e w3 ⟨rfl, rfl⟩
  go_wp2_with fail
  refine (k_splits _ (HV.out.new HNA.out)).mono ?_
  rintro e w3 ⟨rfl, rfl⟩
  go_wp2_with fail
  go_loopw [27] (fun x wr => ∃ (r1 : RdM), Blk wr (w.heap.size + 1 + 1) (rdRow r1) 49 ∧ Blk wr w.heap.size #[.string ⟨#[]⟩, .string ⟨#[]⟩, .string ⟨#[]⟩, .slice none 0 0, .slice none 0 0, .slice none 0 0, .slice none 0 0] 27 ∧ Blk wr (w.heap.size + 1) #[.int .i64 0] 28 ∧ Blk wr (w.heap.size + 1 + 1 + 1) #[.string kP0, .string kP1] 9 ∧ New w wr ∧ ((x = .int .i64 0 ∧ r1 = rdA) ∨ (x = .int .i64 1 ∧ r1 = rdB) ∨ (x = .int .i64 2 ∧ r1 = rdC))) (fun x _ => 2 - (intOf x).toNat)
  case atStart =>
    refine ⟨rdA, (Blk.newAt (by simp)).alloc _, ((Blk.new _ _ _).alloc _).alloc _ |>.alloc _, ((Blk.newAt (by simp)).alloc _).alloc _, Blk.newAt (by simp), HNA.out.alloc _, .inl ⟨rfl, rfl⟩⟩
  case round =>
    clear HNA
    obtain ⟨r1, hb, hm, he, hs, hn, hk⟩ := hrel
    have HB := hid hb; have HM := hid hm; have HE := hid he; have HS := hid hs; have HN := hid hn
    have hsl := hs.lt
    clear hb hm he hs hn
    rcases hk with ⟨rfl, rfl⟩ | ⟨rfl, rfl⟩ | ⟨rfl, rfl⟩
    · have c0 : wr.cell? ⟨w.heap.size + 1 + 1 + 1, 0, none⟩ = some (.string kP0) := HS.out.cellv 0 rfl
      go_wp2_with fail
      refine (k_cut0 _ (HV.out.new HN.out)).mono ?_
      rintro e w3 ⟨rfl, n3⟩
      have N3 := hid n3
      clear n3
      go_wp2_with fail
      refine (need_yes 2 _).mono ?_
      rintro e w4 ⟨rfl, rfl⟩
      go_wp2_with fail
      refine (parts_any _).mono ?_
      rintro e w5 ⟨b, x, y, rfl, hf, -, -, n5⟩
      have lk := plook_pXt hf
      have N5 := hid (N3.out.trans n5)
      clear hf n5
      go_wp2_with fail
      have B5 := New.blk N5.out HB.out
      refine (topic_any (w.heap.size + 1 + 1) rdA kV0 _ B5 (by decide +kernel)).mono ?_
      intro e w6 h6
      rw [k_topic] at h6
      obtain ⟨rfl, hb6, m6⟩ := h6
      have B6 := hid hb6
      have M6 := hid (m6.blk (New.blk N5.out HM.out) (by omega))
      have E6 := hid (m6.blk (New.blk N5.out HE.out) (by omega))
      have S6 := hid (m6.blk (New.blk N5.out HS.out) (by omega))
      have N6 := hid (Mod.trans' (HN.out.trans N5.out) m6 (fun j h1 h2 => by omega))
      clear hb6 m6 B5
      go_wp2
      exact ⟨⟨rdB, B6.out, M6.out, E6.out, S6.out, N6.out, .inr (.inl ⟨rfl, rfl⟩)⟩, by simp [intOf]⟩
    · have c0 : wr.cell? ⟨w.heap.size + 1 + 1 + 1, 1, none⟩ = some (.string kP1) := HS.out.cellv 1 rfl
      go_wp2_with fail
      refine (k_cut1 _ (HV.out.new HN.out)).mono ?_
      rintro e w3 ⟨rfl, n3⟩
      have N3 := hid n3
      clear n3
      go_wp2_with fail
      refine (need_yes 2 _).mono ?_
      rintro e w4 ⟨rfl, rfl⟩
      go_wp2_with fail
      refine (parts_any _).mono ?_
      rintro e w5 ⟨b, x, y, rfl, hf, -, -, n5⟩
      have lk := plook_pDn hf
      have N5 := hid (N3.out.trans n5)
      clear hf n5
      go_wp2_with fail
      have B5 := New.blk N5.out HB.out
      refine (dn_any (w.heap.size + 1 + 1) rdB kV1 _ B5 (by decide +kernel)).mono ?_
      intro e w6 h6
      rw [k_dn] at h6
      obtain ⟨rfl, hb6, m6⟩ := h6
      have B6 := hid hb6
      have M6 := hid (m6.blk (New.blk N5.out HM.out) (by omega))
      have E6 := hid (m6.blk (New.blk N5.out HE.out) (by omega))
      have S6 := hid (m6.blk (New.blk N5.out HS.out) (by omega))
      have N6 := hid (Mod.trans' (HN.out.trans N5.out) m6 (fun j h1 h2 => by omega))
      clear hb6 m6 B5
      go_wp2
      exact ⟨⟨rdC, B6.out, M6.out, E6.out, S6.out, N6.out, .inr (.inr ⟨rfl, rfl⟩)⟩, by simp [intOf]⟩
    · have d0 : wr.cell? ⟨w.heap.size + 1 + 1, 0, none⟩ = some (.string kZ) := HB.out.cellv 0 rfl
      have d1 : wr.cell? ⟨w.heap.size + 1 + 1, 1, none⟩ = some (.string ⟨#[]⟩) := HB.out.cellv 1 rfl
      have d2 : wr.cell? ⟨w.heap.size + 1 + 1, 2, none⟩ = some (.string kN) := HB.out.cellv 2 rfl
      have d3 : wr.cell? ⟨w.heap.size + 1 + 1, 3, none⟩ = some (.slice none 0 0) := HB.out.cellv 3 rfl
      have d4 : wr.cell? ⟨w.heap.size + 1 + 1, 4, none⟩ = some (.slice none 0 0) := HB.out.cellv 4 rfl
      have d5 : wr.cell? ⟨w.heap.size + 1 + 1, 5, none⟩ = some (.slice none 0 0) := HB.out.cellv 5 rfl
      have d6 : wr.cell? ⟨w.heap.size + 1 + 1, 6, none⟩ = some (.slice none 0 0) := HB.out.cellv 6 rfl
      have m0 : wr.cell? ⟨w.heap.size, 0, none⟩ = some (.string ⟨#[]⟩) := HM.out.cellv 0 rfl
      have m1 : wr.cell? ⟨w.heap.size, 1, none⟩ = some (.string ⟨#[]⟩) := HM.out.cellv 1 rfl
      have m2 : wr.cell? ⟨w.heap.size, 2, none⟩ = some (.string ⟨#[]⟩) := HM.out.cellv 2 rfl
      have m3 : wr.cell? ⟨w.heap.size, 3, none⟩ = some (.slice none 0 0) := HM.out.cellv 3 rfl
      have m4 : wr.cell? ⟨w.heap.size, 4, none⟩ = some (.slice none 0 0) := HM.out.cellv 4 rfl
      have m5 : wr.cell? ⟨w.heap.size, 5, none⟩ = some (.slice none 0 0) := HM.out.cellv 5 rfl
      have m6 : wr.cell? ⟨w.heap.size, 6, none⟩ = some (.slice none 0 0) := HM.out.cellv 6 rfl
      have ml := HM.out.lt
      have mf := HM.out.frz
      obtain ⟨e1, e2, e3⟩ := HE.out.one
      go_wp2_with fail
      refine (need_yes 8 _).mono ?_
      rintro e w4 ⟨rfl, rfl⟩
      go_wp2
      have b0 : Blk ((((((((wr.setCell ⟨w.heap.size, 0, none⟩ (.string kZ)).setCell ⟨w.heap.size, 1, none⟩ (.string ⟨#[]⟩)).setCell ⟨w.heap.size, 2, none⟩ (.string kN)).setCell ⟨w.heap.size, 3, none⟩ (.slice none 0 0)).setCell ⟨w.heap.size, 4, none⟩ (.slice none 0 0)).setCell ⟨w.heap.size, 5, none⟩ (.slice none 0 0)).setCell ⟨w.heap.size, 6, none⟩ (.slice none 0 0)).setCell ⟨w.heap.size + 1, 0, none⟩ (.int .i64 0)) w.heap.size #[.string kZ, .string ⟨#[]⟩, .string kN, .slice none 0 0, .slice none 0 0, .slice none 0 0, .slice none 0 0] 27 := by
        apply Blk.row
        · repeat (first | with_reducible exact HM.out | (with_reducible apply Blk.newAt; (simp; done)) | with_reducible apply Blk.alloc | with_reducible apply Blk.drew | with_reducible apply Blk.drewN | with_reducible apply Blk.set | (with_reducible apply Blk.other; · first | (simp; done) | (simp; omega) | omega) | (with_reducible apply Blk.putObj; · first | (simp; done) | (simp; omega) | omega))
        · rfl
      have b1 : Blk ((((((((wr.setCell ⟨w.heap.size, 0, none⟩ (.string kZ)).setCell ⟨w.heap.size, 1, none⟩ (.string ⟨#[]⟩)).setCell ⟨w.heap.size, 2, none⟩ (.string kN)).setCell ⟨w.heap.size, 3, none⟩ (.slice none 0 0)).setCell ⟨w.heap.size, 4, none⟩ (.slice none 0 0)).setCell ⟨w.heap.size, 5, none⟩ (.slice none 0 0)).setCell ⟨w.heap.size, 6, none⟩ (.slice none 0 0)).setCell ⟨w.heap.size + 1, 0, none⟩ (.int .i64 0)) (w.heap.size + 1) #[.int .i64 0] 28 := by
        apply Blk.row
        · repeat (first | with_reducible exact HE.out | (with_reducible apply Blk.newAt; (simp; done)) | with_reducible apply Blk.alloc | with_reducible apply Blk.drew | with_reducible apply Blk.drewN | with_reducible apply Blk.set | (with_reducible apply Blk.other; · first | (simp; done) | (simp; omega) | omega) | (with_reducible apply Blk.putObj; · first | (simp; done) | (simp; omega) | omega))
        · rfl
      refine leaves_cons (f := 21) (args := #[.pointer (some ⟨w.heap.size + 1, 0, none⟩)]) (by simp) (by simp [go_sem]) ?_
      refine (caught_idle ⟨w.heap.size + 1, 0, none⟩ _).mono ?_
      rintro e u' w6 ⟨rfl, rfl, rfl⟩
      have N6q : New w ((((((((wr.setCell ⟨w.heap.size, 0, none⟩ (.string kZ)).setCell ⟨w.heap.size, 1, none⟩ (.string ⟨#[]⟩)).setCell ⟨w.heap.size, 2, none⟩ (.string kN)).setCell ⟨w.heap.size, 3, none⟩ (.slice none 0 0)).setCell ⟨w.heap.size, 4, none⟩ (.slice none 0 0)).setCell ⟨w.heap.size, 5, none⟩ (.slice none 0 0)).setCell ⟨w.heap.size, 6, none⟩ (.slice none 0 0)).setCell ⟨w.heap.size + 1, 0, none⟩ (.int .i64 0)) := by
        repeat (first | with_reducible exact HN.out | with_reducible refine Mod.alloc ?_ _ | with_reducible refine Mod.drew ?_ | with_reducible refine Mod.drewN ?_ _ | (with_reducible refine Mod.set ?_ _ _ (by first | exact .inl rfl | (right; omega) | (right; simp; done) | (right; simp; omega) | (left; omega) | (left; simp; done) | (left; simp; omega))) | (with_reducible refine Mod.putObj ?_ _ _ (by first | exact .inl rfl | (right; omega) | (right; simp; done) | (right; simp; omega) | (left; omega) | (left; simp; done) | (left; simp; omega))))
      have N6 := hid N6q
      refine ⟨_, pm_results _ _ w.heap.size (w.heap.size + 1) _ _ _ _ _ _ _ _ b0 b1 rfl rfl, rfl, N6.out⟩
end Go.Proofs.YtbgmkplpolgebaaGreatDoor

namespace Go.Proofs.YtbgmkplpolgebaaGreatDoor
set_option linter.unusedSimpArgs false
set_option linter.unusedVariables false
open Go.RowKit Go.Shelf

def mag0V : Value := .agg #[.string ⟨#[]⟩, .string ⟨#[]⟩, .string ⟨#[]⟩, .slice none 0 0, .slice none 0 0, .slice none 0 0, .slice none 0 0]
/-- The magnet v tells m; its lists lie in memory from block base on. -/
def MagIs (w : World) (base : Nat) (v : Value) (m : MgV) : Prop := ∃ tr pe ws on, v = .agg #[.string m.old, .string m.new, .string m.name, tr, pe, ws, on] ∧ w.ownsRow base 9 1 tr m.tr.length (m.tr.map Value.string) ∧ w.ownsRow base 64 3 pe m.pe.length (adrRow m.pe) ∧ w.ownsRow base 9 1 ws m.ws.length (m.ws.map Value.string) ∧ w.ownsRow base 66 2 on m.on.length (runRow m.on)
def magQ (base : Nat) (x : Except Int MgV) (e : Ending) (w' : World) : Prop := match x with
  | .error k => e = .returned (.tuple #[mag0V, .int .i64 k])
  | .ok m => ∃ v, e = .returned (.tuple #[v, .int .i64 0]) ∧ MagIs w' base v m
theorem neq_nil (w : World) : (binOp .neq 53 .nilFunc .nilFunc).run Tryz.prog w = .ok (.bool false) w := by
  have h : ∀ d, (Op.equalIn (d + 1) 53 .nilFunc .nilFunc).run Tryz.prog w = .ok true w := fun d => by
    simp [Op.equalIn, run_underlying Tryz.underlying53]
  simp only [binOp]
  simp [Op.equal, Op.maxDepth, h 9999]
theorem plook_none {w : World} {b x y : Nat} (h : FunAt w b (partsF x y)) {K : ByteArray} (h1 : K ≠ pXt) (h2 : K ≠ pDn) (h3 : K ≠ pTr) (h4 : K ≠ pWs) (h5 : K ≠ pPe) (h6 : K ≠ pSo) : (Instr.lookup 54 (.map (some b)) (.string K) false).run Tryz.prog w = .ok .nilFunc w :=
  h.miss1 Tryz.underlying54 Tryz.underlying9 (z := .nilFunc) (by kernel_rfl) (fun v q => by
    simp only [partsF, List.mem_cons, Prod.mk.injEq, List.not_mem_nil, or_false] at q
    rcases q with q | q | q | q | q | q
    · exact h6 q.1
    · exact h5 q.1
    · exact h4 q.1
    · exact h3 q.1
    · exact h2 q.1
    · exact h1 q.1)
theorem rowBase {w : World} {base base' : Nat} {e : TypeId} {size : Nat} {v : Value} {n : Nat} {xs : List Value} (h : w.ownsRow base e size v n xs) (hb : base' ≤ base) : w.ownsRow base' e size v n xs := by
  refine ⟨h.1, ?_⟩
  rcases h.2 with h1 | ⟨g, cap, cur, e, hbg, rest⟩
  · exact .inl h1
  · exact .inr ⟨g, cap, cur, e, Nat.le_trans hb hbg, rest⟩
theorem cutp_any (s : ByteArray) (w : World) : Calls Tryz.prog 22 #[.string s, .string ⟨#[109, 97, 103, 110, 101, 116, 58, 63]⟩] w fun e w' => (∃ R : ByteArray, e = .returned (.tuple #[.string R, .bool (kHead.isPrefixOf s.data.toList)]) ∧ (kHead.isPrefixOf s.data.toList = true → R = mkB (s.data.toList.drop 8))) ∧ w' = w := by
  refine (Tryz.strings_CutPrefix s _ w).mono ?_
  rintro e w' ⟨rfl, rfl⟩
  refine ⟨⟨_, rfl, fun q => ?_⟩, rfl⟩
  have hq : Lib.hasPrefix s.data.toList (⟨#[109, 97, 103, 110, 101, 116, 58, 63]⟩ : ByteArray).data.toList = true := q
  unfold Lib.trimPrefix
  rw [if_pos hq]
  rfl
end Go.Proofs.YtbgmkplpolgebaaGreatDoor
