/-
  Several texts in one, in their build order. The walk of topic (package magnet). Conditions: the reader lies as told; the text is small. Texts of runs of bits told in plain words: numbers, parts, what is written and read; the two readings of a part are one. Plain Lean, no program. No condition. Addresses and their texts told in plain words: what is read is what is written. Plain Lean, no program. No condition.
-/
import Derived.Test.YtbgmkplpolgebaaGreatDoorM14
import Derived.Test.YtbgmkplpolgebaaGreatDoorM7
import Derived.Test.YtbgmkplpolgebaaGreatDoorM3
namespace Go.Proofs.YtbgmkplpolgebaaGreatDoor
set_option linter.unusedSimpArgs false
set_option linter.unusedVariables false
open Go.RowKit Go.Shelf

def uOld : ByteArray := ⟨#[117, 114, 110, 58, 99, 118, 111, 58]⟩
def uNew : ByteArray := ⟨#[117, 114, 110, 58, 99, 118, 110, 58]⟩
def digU (p s : ByteArray) : ByteArray := ⟨(Lib.trimPrefix s.data.toList p.data.toList).toArray⟩
def isU (p s : ByteArray) : Bool := Lib.hasPrefix s.data.toList p.data.toList
theorem digU_le (p s : ByteArray) : (digU p s).size ≤ s.size := by
  unfold digU
  rw [size_list]
  unfold Lib.trimPrefix
  have : s.data.toList.length = s.size := by rw [Array.length_toList]; rfl
  split <;> simp <;> omega
def tO (r : RdM) (s : ByteArray) : Except Int RdM :=
  if isU uOld s = true then if (digU uOld s).size ≠ 40 then .error 2 else match hexC (digU uOld s).data.toList with
    | none => .error 2
    | some x => if r.old.toList ≠ [] then .error 6 else .ok { r with old := ⟨x.toArray⟩ }
  else .ok r
def tN (r : RdM) (s : ByteArray) : Except Int RdM :=
  if isU uNew s = true then if (digU uNew s).size ≠ 64 then .error 2 else match hexC (digU uNew s).data.toList with
    | none => .error 2
    | some x => if r.new.toList ≠ [] then .error 6 else .ok { r with new := ⟨x.toArray⟩ }
  else .ok r
def topicR (r : RdM) (s : ByteArray) : Except Int RdM := match tO r s with
  | .error k => .error k
  | .ok r1 => tN r1 s
theorem topic_no {r : RdM} {s : ByteArray} {k : Int} (h : tO r s = .error k) : topicR r s = .error k := by unfold topicR; rw [h]
theorem topic_yes {r r1 : RdM} {s : ByteArray} (h : tO r s = .ok r1) : topicR r s = tN r1 s := by unfold topicR; rw [h]
set_option maxRecDepth 100000 in
set_option maxHeartbeats 4000000 in
theorem topic_any (B : Nat) (r : RdM) (s : ByteArray) (w : World) (hb : Blk w B (rdRow r) 49) (hs : s.size ≤ 65536) :
    Calls Tryz.prog 74 #[.pointer (some ⟨B, 0, none⟩), .string s] w fun e w' => RdOut B w (topicR r s) e w' := by
  have HB0 := hid (hb.alloc (.cells #[.string ⟨#[117, 114, 110, 58, 99, 118, 111, 58]⟩, .string ⟨#[117, 114, 110, 58, 99, 118, 110, 58]⟩] 9))
  have HS0 := hid (Blk.new w #[.string ⟨#[117, 114, 110, 58, 99, 118, 111, 58]⟩, .string ⟨#[117, 114, 110, 58, 99, 118, 110, 58]⟩] 9)
  have HM0 : Hid (Mod (fun k => k = B) w (w.alloc (.cells #[.string ⟨#[117, 114, 110, 58, 99, 118, 111, 58]⟩, .string ⟨#[117, 114, 110, 58, 99, 118, 110, 58]⟩] 9))) := hid ((Mod.refl _ _).alloc _)
  have hBw := hb.lt
  obtain ⟨X, hX⟩ : ∃ X, X = topicR r s := ⟨_, rfl⟩
  clear hb
  go_enter Tryz.func74, Tryz.ntmps74
  go_wp2_with fail
  go_loopw [13] (fun x wr => ∃ (r1 : RdM), Blk wr B (rdRow r1) 49 ∧ Mod (fun k => k = B) w wr ∧ Blk wr w.heap.size #[.string ⟨#[117, 114, 110, 58, 99, 118, 111, 58]⟩, .string ⟨#[117, 114, 110, 58, 99, 118, 110, 58]⟩] 9 ∧ ((x = .int .i64 0 ∧ r1 = r) ∨ (x = .int .i64 1 ∧ tO r s = .ok r1) ∨ (x = .int .i64 2 ∧ topicR r s = .ok r1))) (fun x _ => 2 - (intOf x).toNat)
  case atStart => exact ⟨r, HB0.out, HM0.out, HS0.out, .inl ⟨rfl, rfl⟩⟩
  case round =>
    clear HB0 HS0 HM0 hX X
    obtain ⟨r1, hb, hm, hs0, hk⟩ := hrel
    have HB := hid hb; have HM := hid hm; have HS := hid hs0
    have hBr := hb.lt
    have hSr := hs0.lt
    clear hb hm hs0
    rcases hk with ⟨rfl, hr⟩ | ⟨rfl, hr⟩ | ⟨rfl, hr⟩
    · have HR := hid hr
      clear hr
      have c0 : wr.cell? ⟨w.heap.size, 0, none⟩ = some (.string ⟨#[117, 114, 110, 58, 99, 118, 111, 58]⟩) := HS.out.cellv 0 rfl
      have HTT : Hid (∀ k, tO r1 s = .error k → topicR r s = .error k) := hid ((fun k q => topic_no (by rw [← HR.out]; exact q)))
      cases hp : isU uOld s with
      | false =>
        have HCP : Hid (∀ W, Calls Tryz.prog 22 #[.string s, .string ⟨#[117, 114, 110, 58, 99, 118, 111, 58]⟩] W fun e w' => e = .returned (.tuple #[.string (digU uOld s), .bool false]) ∧ W = w') := hid (fun W => (Tryz.strings_CutPrefix s uOld W).mono (fun e w' ⟨h1, h2⟩ => ⟨by rw [h1]; unfold isU at hp; rw [hp]; rfl, h2.symm⟩))
        have HT : Hid (tO r1 s = .ok r1) := hid (by unfold tO; rw [if_neg (by rw [hp]; decide)])
        clear hp
        go_wp2_with fail
        refine (HCP.out _).mono ?_
        rintro e w3 ⟨rfl, rfl⟩
        go_wp2_with fail
        exact ⟨⟨r1, HB.out, HM.out, HS.out, .inr (.inl ⟨rfl, by rw [← HR.out]; exact HT.out⟩)⟩, by simp [intOf]⟩
      | true =>
        have HCP : Hid (∀ W, Calls Tryz.prog 22 #[.string s, .string ⟨#[117, 114, 110, 58, 99, 118, 111, 58]⟩] W fun e w' => e = .returned (.tuple #[.string (digU uOld s), .bool true]) ∧ W = w') := hid (fun W => (Tryz.strings_CutPrefix s uOld W).mono (fun e w' ⟨h1, h2⟩ => ⟨by rw [h1]; unfold isU at hp; rw [hp]; rfl, h2.symm⟩))
        have HT : Hid (tO r1 s = (if (digU uOld s).size ≠ 40 then .error 2 else match hexC (digU uOld s).data.toList with | none => .error 2 | some x => if r1.old.toList ≠ [] then .error 6 else .ok { r1 with old := ⟨x.toArray⟩ })) := hid (by unfold tO; rw [if_pos hp])
        clear hp
        have hDs := digU_le uOld s
        have HHX := hid (fun W (q : (digU uOld s).size ≤ 65536) => hexed_any (digU uOld s) W q)
        obtain ⟨D, hD⟩ : ∃ D, D = digU uOld s := ⟨_, rfl⟩
        rw [← hD] at HT HCP HHX hDs
        clear hD
        by_cases hsz : D.size = 40
        · have hb1 : ((D.size : Int) == 40) = true := by rw [beq_iff_eq]; omega
          rw [if_neg (by omega)] at HT
          cases hx : hexC D.data.toList with
          | none =>
            rw [hx] at HT HHX
            rw [hexR] at HHX
            have HHX2 := hid (fun W => HHX.out W (by omega))
            clear HHX hsz hx
            go_wp2_with fail
            refine (HCP.out _).mono ?_
            rintro e w3 ⟨rfl, rfl⟩
            go_wp2_with fail
            refine (need_yes 2 _).mono ?_
            rintro e w3 ⟨rfl, rfl⟩
            go_wp2_with fail
            refine (HHX2.out _).mono ?_
            rintro e w4 ⟨rfl, n4⟩
            have M4 := hid (Mod.trans HM.out (New.mod n4))
            clear n4
            go_wp2
            exact ⟨rfl, RdOut.no (HTT.out _ HT.out) M4.out⟩
          | some t =>
            rw [hx] at HT HHX
            rw [hexR] at HHX
            have HHX2 := hid (fun W => HHX.out W (by omega))
            obtain ⟨X, hX⟩ : ∃ X : ByteArray, X = ⟨t.toArray⟩ := ⟨_, rfl⟩
            simp only [← hX] at HT HHX2
            clear HHX hsz hx hX
            cases ho : r1.old.toList == [] with
            | false =>
              have HE : Hid (tO r1 s = .error 6) := hid (by rw [HT.out, if_pos (by rw [beq_eq_false_iff_ne] at ho; exact ho)])
              clear HT
              go_wp2_with fail
              refine (HCP.out _).mono ?_
              rintro e w3 ⟨rfl, rfl⟩
              go_wp2_with fail
              refine (need_yes 2 _).mono ?_
              rintro e w3 ⟨rfl, rfl⟩
              go_wp2_with fail
              refine (HHX2.out _).mono ?_
              rintro e w4 ⟨rfl, n4⟩
              have M4 := hid (Mod.trans HM.out (New.mod n4))
              have B4 := hid (n4.blk HB.out)
              have b4 : w4.cell? ⟨B, 0, none⟩ = some (.string r1.old) := B4.out.cellv 0 rfl
              clear n4
              go_wp2_with fail
              refine (need_no 6 _).mono ?_
              rintro e w5 ⟨rfl, rfl⟩
              go_wp2
              exact ⟨rfl, RdOut.no (HTT.out _ HE.out) M4.out⟩
            | true =>
              have HE : Hid (tO r1 s = .ok { r1 with old := X }) := hid (by rw [HT.out, if_neg (by rw [beq_iff_eq] at ho; rw [ho]; exact fun q => q rfl)])
              clear HT
              go_wp2_with fail
              refine (HCP.out _).mono ?_
              rintro e w3 ⟨rfl, rfl⟩
              go_wp2_with fail
              refine (need_yes 2 _).mono ?_
              rintro e w3 ⟨rfl, rfl⟩
              go_wp2_with fail
              refine (HHX2.out _).mono ?_
              rintro e w4 ⟨rfl, n4⟩
              have M4 := hid (Mod.trans HM.out (New.mod n4))
              have B4 := hid (n4.blk HB.out)
              have S4 := hid (n4.blk HS.out)
              have b4 : w4.cell? ⟨B, 0, none⟩ = some (.string r1.old) := B4.out.cellv 0 rfl
              have bl := B4.out.lt
              have bf := B4.out.frz 0
              clear n4
              go_wp2_with fail
              refine (need_yes 6 _).mono ?_
              rintro e w5 ⟨rfl, rfl⟩
              go_wp2_with fail
              have HT := HE
              exact ⟨⟨{ r1 with old := X }, (B4.out.set 0 (.string X)).row rfl, Mod.set M4.out ⟨B, 0, none⟩ _ (.inl rfl), S4.out.other (by show w.heap.size ≠ B; omega), .inr (.inl ⟨rfl, by rw [← HR.out]; exact HT.out⟩)⟩, by simp [intOf]⟩
        · have hb1 : ((D.size : Int) == 40) = false := by rw [beq_eq_false_iff_ne]; omega
          have HE : Hid (tO r1 s = .error 2) := hid (by rw [HT.out, if_pos hsz])
          clear HT HHX hsz
          go_wp2_with fail
          refine (HCP.out _).mono ?_
          rintro e w3 ⟨rfl, rfl⟩
          go_wp2_with fail
          refine (need_no 2 _).mono ?_
          rintro e w3 ⟨rfl, rfl⟩
          go_wp2
          exact ⟨rfl, RdOut.no (HTT.out _ HE.out) HM.out⟩
    · have HR := hid hr
      clear hr
      have c0 : wr.cell? ⟨w.heap.size, 1, none⟩ = some (.string ⟨#[117, 114, 110, 58, 99, 118, 110, 58]⟩) := HS.out.cellv 1 rfl
      have HTT : Hid (∀ k, tN r1 s = .error k → topicR r s = .error k) := hid ((fun k q => by rw [topic_yes HR.out]; exact q))
      cases hp : isU uNew s with
      | false =>
        have HCP : Hid (∀ W, Calls Tryz.prog 22 #[.string s, .string ⟨#[117, 114, 110, 58, 99, 118, 110, 58]⟩] W fun e w' => e = .returned (.tuple #[.string (digU uNew s), .bool false]) ∧ W = w') := hid (fun W => (Tryz.strings_CutPrefix s uNew W).mono (fun e w' ⟨h1, h2⟩ => ⟨by rw [h1]; unfold isU at hp; rw [hp]; rfl, h2.symm⟩))
        have HT : Hid (tN r1 s = .ok r1) := hid (by unfold tN; rw [if_neg (by rw [hp]; decide)])
        clear hp
        go_wp2_with fail
        refine (HCP.out _).mono ?_
        rintro e w3 ⟨rfl, rfl⟩
        go_wp2_with fail
        exact ⟨⟨r1, HB.out, HM.out, HS.out, .inr (.inr ⟨rfl, by rw [topic_yes HR.out]; exact HT.out⟩)⟩, by simp [intOf]⟩
      | true =>
        have HCP : Hid (∀ W, Calls Tryz.prog 22 #[.string s, .string ⟨#[117, 114, 110, 58, 99, 118, 110, 58]⟩] W fun e w' => e = .returned (.tuple #[.string (digU uNew s), .bool true]) ∧ W = w') := hid (fun W => (Tryz.strings_CutPrefix s uNew W).mono (fun e w' ⟨h1, h2⟩ => ⟨by rw [h1]; unfold isU at hp; rw [hp]; rfl, h2.symm⟩))
        have HT : Hid (tN r1 s = (if (digU uNew s).size ≠ 64 then .error 2 else match hexC (digU uNew s).data.toList with | none => .error 2 | some x => if r1.new.toList ≠ [] then .error 6 else .ok { r1 with new := ⟨x.toArray⟩ })) := hid (by unfold tN; rw [if_pos hp])
        clear hp
        have hDs := digU_le uNew s
        have HHX := hid (fun W (q : (digU uNew s).size ≤ 65536) => hexed_any (digU uNew s) W q)
        obtain ⟨D, hD⟩ : ∃ D, D = digU uNew s := ⟨_, rfl⟩
        rw [← hD] at HT HCP HHX hDs
        clear hD
        by_cases hsz : D.size = 64
        · have hb1 : ((D.size : Int) == 64) = true := by rw [beq_iff_eq]; omega
          rw [if_neg (by omega)] at HT
          cases hx : hexC D.data.toList with
          | none =>
            rw [hx] at HT HHX
            rw [hexR] at HHX
            have HHX2 := hid (fun W => HHX.out W (by omega))
            clear HHX hsz hx
            go_wp2_with fail
            refine (HCP.out _).mono ?_
            rintro e w3 ⟨rfl, rfl⟩
            go_wp2_with fail
            refine (need_yes 2 _).mono ?_
            rintro e w3 ⟨rfl, rfl⟩
            go_wp2_with fail
            refine (HHX2.out _).mono ?_
            rintro e w4 ⟨rfl, n4⟩
            have M4 := hid (Mod.trans HM.out (New.mod n4))
            clear n4
            go_wp2
            exact ⟨rfl, RdOut.no (HTT.out _ HT.out) M4.out⟩
          | some t =>
            rw [hx] at HT HHX
            rw [hexR] at HHX
            have HHX2 := hid (fun W => HHX.out W (by omega))
            obtain ⟨X, hX⟩ : ∃ X : ByteArray, X = ⟨t.toArray⟩ := ⟨_, rfl⟩
            simp only [← hX] at HT HHX2
            clear HHX hsz hx hX
            cases ho : r1.new.toList == [] with
            | false =>
              have HE : Hid (tN r1 s = .error 6) := hid (by rw [HT.out, if_pos (by rw [beq_eq_false_iff_ne] at ho; exact ho)])
              clear HT
              go_wp2_with fail
              refine (HCP.out _).mono ?_
              rintro e w3 ⟨rfl, rfl⟩
              go_wp2_with fail
              refine (need_yes 2 _).mono ?_
              rintro e w3 ⟨rfl, rfl⟩
              go_wp2_with fail
              refine (HHX2.out _).mono ?_
              rintro e w4 ⟨rfl, n4⟩
              have M4 := hid (Mod.trans HM.out (New.mod n4))
              have B4 := hid (n4.blk HB.out)
              have b4 : w4.cell? ⟨B, 1, none⟩ = some (.string r1.new) := B4.out.cellv 1 rfl
              clear n4
              go_wp2_with fail
              refine (need_no 6 _).mono ?_
              rintro e w5 ⟨rfl, rfl⟩
              go_wp2
              exact ⟨rfl, RdOut.no (HTT.out _ HE.out) M4.out⟩
            | true =>
              have HE : Hid (tN r1 s = .ok { r1 with new := X }) := hid (by rw [HT.out, if_neg (by rw [beq_iff_eq] at ho; rw [ho]; exact fun q => q rfl)])
              clear HT
              go_wp2_with fail
              refine (HCP.out _).mono ?_
              rintro e w3 ⟨rfl, rfl⟩
              go_wp2_with fail
              refine (need_yes 2 _).mono ?_
              rintro e w3 ⟨rfl, rfl⟩
              go_wp2_with fail
              refine (HHX2.out _).mono ?_
              rintro e w4 ⟨rfl, n4⟩
              have M4 := hid (Mod.trans HM.out (New.mod n4))
              have B4 := hid (n4.blk HB.out)
              have S4 := hid (n4.blk HS.out)
              have b4 : w4.cell? ⟨B, 1, none⟩ = some (.string r1.new) := B4.out.cellv 1 rfl
              have bl := B4.out.lt
              have bf := B4.out.frz 1
              clear n4
              go_wp2_with fail
              refine (need_yes 6 _).mono ?_
              rintro e w5 ⟨rfl, rfl⟩
              go_wp2_with fail
              have HT := HE
              exact ⟨⟨{ r1 with new := X }, (B4.out.set 1 (.string X)).row rfl, Mod.set M4.out ⟨B, 1, none⟩ _ (.inl rfl), S4.out.other (by show w.heap.size ≠ B; omega), .inr (.inr ⟨rfl, by rw [topic_yes HR.out]; exact HT.out⟩)⟩, by simp [intOf]⟩
        · have hb1 : ((D.size : Int) == 64) = false := by rw [beq_eq_false_iff_ne]; omega
          have HE : Hid (tN r1 s = .error 2) := hid (by rw [HT.out, if_pos hsz])
          clear HT HHX hsz
          go_wp2_with fail
          refine (HCP.out _).mono ?_
          rintro e w3 ⟨rfl, rfl⟩
          go_wp2_with fail
          refine (need_no 2 _).mono ?_
          rintro e w3 ⟨rfl, rfl⟩
          go_wp2
          exact ⟨rfl, RdOut.no (HTT.out _ HE.out) HM.out⟩
    · have HR := hid hr
      clear hr
      go_wp2
      go_end0
      exact RdOut.yes HR.out HB.out HM.out
end Go.Proofs.YtbgmkplpolgebaaGreatDoor

namespace Go.Proofs.YtbgmkplpolgebaaGreatDoor
set_option linter.unusedSimpArgs false
set_option linter.unusedVariables false

end Go.Proofs.YtbgmkplpolgebaaGreatDoor

namespace Go.Proofs.YtbgmkplpolgebaaGreatDoor
set_option linter.unusedSimpArgs false
set_option linter.unusedVariables false

/-- An address. -/
structure AdrV where
  fam : Int
  ip : ByteArray
  port : Int
def adrOk (x : AdrV) : Bool := (decide (x.fam = 4) && decide (x.ip.size = 4) || decide (x.fam = 6) && decide (x.ip.size = 16)) && decide (1 ≤ x.port) && decide (x.port ≤ 65535)
/-! ### digits of base 16 -/
/-! ### the text of an address -/
/-! ### cut and joined -/
end Go.Proofs.YtbgmkplpolgebaaGreatDoor
