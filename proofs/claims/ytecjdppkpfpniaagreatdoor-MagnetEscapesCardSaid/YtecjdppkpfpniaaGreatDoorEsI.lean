/-
  The walks of the functions that read a magnet's topic and name (package magnet). Conditions: the reader lies as told; the text is small.
-/
import Derived.Test.YtecjdppkpfpniaaGreatDoorEsH
namespace Go.Proofs.YtecjdppkpfpniaaGreatDoor
set_option linter.unusedSimpArgs false
set_option linter.unusedVariables false
open Go.RowKit Go.Shelf

/-- What a reader holds. -/
structure RdM where
  old : ByteArray
  new : ByteArray
  name : ByteArray
  tr : Value
  pe : Value
  ws : Value
  on : Value
  named : Bool
  only : Bool
def rdRow (r : RdM) : Array Value := #[.string r.old, .string r.new, .string r.name, r.tr, r.pe, r.ws, r.on, .bool r.named, .bool r.only]
def RdOut (B : Nat) (w : World) : Except Int RdM → Ending → World → Prop
  | .ok r, e, w' => e = .returned (.tuple #[]) ∧ Blk w' B (rdRow r) 66 ∧ Mod (fun k => k = B) w w'
  | .error k, e, w' => e = .panicked (toldM k) ∧ Mod (fun k => k = B) w w'
theorem RdOut.no {B : Nat} {w w' : World} {x : Except Int RdM} {k : Int} (h : x = .error k) (m : Mod (fun k => k = B) w w') : RdOut B w x (.panicked (toldM k)) w' := by subst h; exact ⟨rfl, m⟩
theorem RdOut.yes {B : Nat} {w w' : World} {x : Except Int RdM} {r : RdM} (h : x = .ok r) (hb : Blk w' B (rdRow r) 66) (m : Mod (fun k => k = B) w w') : RdOut B w x (.returned (.tuple #[])) w' := by subst h; exact ⟨rfl, hb, m⟩
def dnR (r : RdM) (s : List UInt8) : Except Int RdM := match loose s with
  | none => .error 2
  | some x => if 100 < x.length then .error 2 else if r.named then .error 6 else .ok { r with name := ⟨x.toArray⟩, named := true }
set_option maxRecDepth 100000 in
set_option maxHeartbeats 4000000 in
theorem dn_any (B : Nat) (r : RdM) (s : ByteArray) (w : World) (hb : Blk w B (rdRow r) 66) (hs : s.size ≤ 4000000) :
    Calls Tryz.prog 109 #[.pointer (some ⟨B, 0, none⟩), .string s] w fun e w' => RdOut B w (dnR r s.data.toList) e w' := by
  have HB := hid hb
  have HUN := hid (unescaped_any s w hs)
  obtain ⟨X, hX⟩ : ∃ X, X = dnR r s.data.toList := ⟨_, rfl⟩
  rw [← hX]
  unfold dnR at hX
  have HXX := hid hX
  clear hb hX
  cases hl : loose s.data.toList with
  | none =>
    rw [hl, hexR] at HUN
    have HX : Hid (X = .error 2) := hid (by rw [HXX.out, hl])
    clear hl HXX
    go_enter Tryz.func109, Tryz.ntmps109
    go_wp2_with fail
    refine HUN.out.mono ?_
    rintro e w1 ⟨rfl, n1⟩
    have N1 := hid (New.mod (S := fun k => k = B) n1)
    clear n1
    go_wp2
    exact ⟨rfl, RdOut.no HX.out N1.out⟩
  | some t =>
    rw [hl, hexR] at HUN
    rw [hl] at HXX
    clear hl
    have hTs : (⟨t.toArray⟩ : ByteArray).size = t.length := size_list t
    obtain ⟨T, hT⟩ : ∃ T : ByteArray, T = ⟨t.toArray⟩ := ⟨_, rfl⟩
    rw [← hT] at HUN hTs
    have HT := hid hT
    clear hT
    by_cases hlong : 100 < t.length
    · have HX : Hid (X = .error 2) := hid (by rw [HXX.out]; simp only; rw [if_pos hlong])
      have hd : decide ((T.size : Int) ≤ 100) = false := decide_eq_false (by omega)
      have hd2 : ¬ (T.size : Int) ≤ 100 := by omega
      clear hlong hTs HXX
      go_enter Tryz.func109, Tryz.ntmps109
      go_wp2_with fail
      refine HUN.out.mono ?_
      rintro e w1 ⟨rfl, n1⟩
      have N1 := hid (New.mod (S := fun k => k = B) n1)
      clear n1
      go_wp2_with fail
      refine (need_no 2 _).mono ?_
      rintro e w3 ⟨rfl, rfl⟩
      go_wp2
      exact ⟨rfl, RdOut.no HX.out N1.out⟩
    · have hd : decide ((T.size : Int) ≤ 100) = true := decide_eq_true (by omega)
      have hd2 : (T.size : Int) ≤ 100 := by omega
      clear hTs
      cases hn : r.named with
      | true =>
        have HX : Hid (X = .error 6) := hid (by rw [HXX.out]; simp only; rw [if_neg hlong, if_pos hn])
        clear hlong HXX
        go_enter Tryz.func109, Tryz.ntmps109
        go_wp2_with fail
        refine HUN.out.mono ?_
        rintro e w1 ⟨rfl, n1⟩
        have N1 := hid (New.mod (S := fun k => k = B) n1)
        have B1 := hid (n1.blk HB.out)
        have b7 : w1.cell? ⟨B, 7, none⟩ = some (.bool r.named) := B1.out.cellv 7 rfl
        rw [hn] at b7
        clear n1
        go_wp2_with fail
        refine (need_yes 2 _).mono ?_
        rintro e w3 ⟨rfl, rfl⟩
        go_wp2_with fail
        refine (need_no 6 _).mono ?_
        rintro e w3 ⟨rfl, rfl⟩
        go_wp2
        exact ⟨rfl, RdOut.no HX.out N1.out⟩
      | false =>
        have HX : Hid (X = .ok { r with name := T, named := true }) := hid (by rw [HXX.out]; simp only; rw [if_neg hlong, if_neg (by rw [hn]; decide), HT.out])
        clear hlong HXX
        go_enter Tryz.func109, Tryz.ntmps109
        go_wp2_with fail
        refine HUN.out.mono ?_
        rintro e w1 ⟨rfl, n1⟩
        have N1 := hid (New.mod (S := fun k => k = B) n1)
        have B1 := hid (n1.blk HB.out)
        have b2 : w1.cell? ⟨B, 2, none⟩ = some (.string r.name) := B1.out.cellv 2 rfl
        have b7 : w1.cell? ⟨B, 7, none⟩ = some (.bool r.named) := B1.out.cellv 7 rfl
        have bl := B1.out.lt
        have bf := B1.out.frz
        rw [hn] at b7
        clear n1
        go_wp2_with fail
        refine (need_yes 2 _).mono ?_
        rintro e w3 ⟨rfl, rfl⟩
        go_wp2_with fail
        refine (need_yes 6 _).mono ?_
        rintro e w3 ⟨rfl, rfl⟩
        go_wp2
        go_end0
        refine RdOut.yes HX.out (((B1.out.set 2 (.string T)).set 7 (.bool true)).row rfl) ?_
        exact Mod.set (Mod.set N1.out ⟨B, 2, none⟩ _ (.inl rfl)) ⟨B, 7, none⟩ _ (.inl rfl)
end Go.Proofs.YtecjdppkpfpniaaGreatDoor
