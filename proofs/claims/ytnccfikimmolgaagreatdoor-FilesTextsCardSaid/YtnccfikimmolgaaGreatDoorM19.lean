/-
  Several texts in one, in their build order. The walks of Align (a valid list without pads), the law's page, awake. Condition: the library's table is as laid. The walk of Light: it answers, whatever it is. Condition: the list lies as told. What every row over a list of files opens: the list itself, the library's table. Plain facts over the program. No condition.
-/
import Derived.Test.YtnccfikimmolgaaGreatDoorM18
import Derived.Test.YtnccfikimmolgaaGreatDoorM3
import Derived.Deep.Strs
import Derived.Stop.LaidErr
import Derived.MakeChecks
import Derived.LaidMore
import Derived.ProofKit
import Derived.OpenShut
import Derived.Stop.Joined
namespace Go.Proofs.YtnccfikimmolgaaGreatDoor
set_option linter.unusedSimpArgs false
set_option linter.unusedVariables false
open Go.RowKit

set_option maxRecDepth 100000 in
set_option maxHeartbeats 2000000 in
theorem Align_ok (a : Option Addr) (c : Nat) (l : List FileV) (piece : Int) (w : World) (h : FilesAt w a c l) (ht : Tab w) (h0 : -9223372036854775808 ≤ piece) (h1 : piece ≤ 9223372036854775807)
    (hv : validOf l = true) (hp : pieceOf piece = true) (hn : ∀ f ∈ l, f.pad = false) (h8 : ∀ f ∈ l, f.path.length ≤ 8) (hq : (padded piece 0 l).length ≤ 40) (hs : sumOf (padded piece 0 l) ≤ 65536) (hz : ∀ f ∈ padded piece 0 l, 0 ≤ f.len) :
    Calls Tryz.prog 30 #[.slice a l.length c, .int .i64 piece] w fun e w' => ∃ a' c', e = .returned (.tuple #[.slice a' (padded piece 0 l).length c', .int .i64 0]) ∧ FilesAt w' a' c' (padded piece 0 l) ∧ New w w' := by
  obtain ⟨v1, v2, v3, v4⟩ := valid_facts hv
  have v5 := each_len v3
  have HV := hid (hv ▸ valid_any a c l w h ht : Calls Tryz.prog 27 #[.slice a l.length c] w fun e w' => e = .returned (.bool true) ∧ New w w')
  have HP := hid (fun w => (hp ▸ piece_any piece w h0 h1 : Calls Tryz.prog 57 #[.int .i64 piece] w fun e w' => e = .returned (.bool true) ∧ w = w'))
  have HA := hid (fun w' (n : New w w') => aligned_go a c l l piece w' v2 (fun f hf => ⟨v3 f hf, by have := v5 f hf; omega⟩) hp (ht.new n) (bare_none a c l w' (h.new n) v2 h8 hn))
  obtain ⟨pl, hpl⟩ : ∃ pl, pl = padded piece 0 l := ⟨_, rfl⟩
  rw [← hpl] at HA hq hs hz ⊢
  have HTT := hid (fun a c (W : World) (h : FilesAt W a c pl) => total_any a c pl W h hz (by omega))
  have hq' : ¬ (40 : Int) < pl.length := by omega
  have hs' : ¬ 65536 < sumOf pl := by omega
  clear h ht hv hp hn h8 hq hs hz v1 v2 v3 v4 v5 hpl
  go_enter Tryz.func30, Tryz.ntmps30
  go_wp2_with (first | (go_at_call 27; refine HV.out.mono ?_; rintro e w1 ⟨rfl, h1⟩; have H1 := hid h1; clear h1) | (go_at_call 57; refine (HP.out _).mono ?_; rintro e w2 ⟨rfl, rfl⟩) | (go_at_call 58; refine (HA.out _ H1.out).mono ?_; rintro e w3 ⟨v, E, rfl, hE, hO, n3⟩; obtain ⟨a', c', rfl, hfa⟩ := hO.files; rw [hE] at hfa; have hel : E.length = pl.length := (by have := congrArg List.length hE; simpa using this); rw [hel]; have HFA := hid hfa; have N3 := hid n3; clear hE hO hfa n3 hel) | (go_at_call 59; refine (HTT.out _ _ _ HFA.out).mono ?_; rintro e w4 ⟨rfl, n4⟩; have N4 := hid n4; clear n4))
  go_ret2
  exact ⟨a', c', rfl, HFA.out.new N4.out, H1.out.trans (N3.out.trans N4.out)⟩

def pageL : List FileV := [⟨[⟨#[97]⟩], 20, false⟩, ⟨[⟨#[98]⟩], 5, false⟩]
theorem page_valid : validOf pageL = true := by kernel_rfl
theorem page_way : wayErr pageL 16 = 0 := by kernel_rfl
theorem page_padded : padded 16 0 pageL = [⟨[⟨#[97]⟩], 20, false⟩, ⟨padPath 12, 12, true⟩, ⟨[⟨#[98]⟩], 5, false⟩] := by
  simp [padded, lackOf, pageL]
theorem page_old : piecesOf pageL 16 false = 2 := by kernel_rfl
theorem page_new : piecesOf pageL 16 true = 3 := by kernel_rfl
set_option maxHeartbeats 1000000 in
theorem page_any (w : World) : Calls Tryz.prog 29 #[] w fun e w' => e = .returned (.slice (some ⟨w.heap.size + 2, 0, none⟩) 2 2) ∧ FilesAt w' (some ⟨w.heap.size + 2, 0, none⟩) 2 pageL ∧ New w w' := by
  go_enter Tryz.func29, Tryz.ntmps29
  go_wp2
  go_ret
  refine ⟨rfl, ?_, (((Mod.refl _ _).alloc _).alloc _).alloc _⟩
  have b0 := ((Blk.new w #[.string ⟨#[97]⟩] 9).alloc (.cells #[.string ⟨#[98]⟩] 9)).alloc (.cells #[.slice (some ⟨w.heap.size, 0, none⟩) 1 1, .int .i64 20, .bool false, .slice (some ⟨w.heap.size + 1, 0, none⟩) 1 1, .int .i64 5, .bool false] 51)
  have b1 := (Blk.newAt (w := w.alloc (.cells #[.string ⟨#[97]⟩] 9)) (b := w.heap.size + 1) (cs := #[.string ⟨#[98]⟩]) (t := 9) (by simp)).alloc (.cells #[.slice (some ⟨w.heap.size, 0, none⟩) 1 1, .int .i64 20, .bool false, .slice (some ⟨w.heap.size + 1, 0, none⟩) 1 1, .int .i64 5, .bool false] 51)
  have b2 := Blk.newAt (w := (w.alloc (.cells #[.string ⟨#[97]⟩] 9)).alloc (.cells #[.string ⟨#[98]⟩] 9)) (b := w.heap.size + 2) (cs := #[.slice (some ⟨w.heap.size, 0, none⟩) 1 1, .int .i64 20, .bool false, .slice (some ⟨w.heap.size + 1, 0, none⟩) 1 1, .int .i64 5, .bool false]) (t := 51) (by simp)
  have st : ∀ (W : World) (b : Nat) (s : ByteArray), s.size ≤ 1 → Blk W b #[.string s] 9 → StrsAt W (some ⟨b, 0, none⟩) 1 [s] := by
    intro W b s hs hb
    refine ⟨by simp, by simp [maxLen], fun x hx => by simp at hx; subst hx; unfold maxLen; omega, .inr ⟨b, 0, rfl, hb.lt, fun i x hx => ?_⟩⟩
    match i, hx with
    | 0, hx => simp at hx; subst hx; exact hb.cellv 0 rfl
    | i + 1, hx => simp at hx
  refine ⟨by simp [pageL], by simp [maxLen], .inr ⟨_, _, rfl, by simp, fun i f hf => ?_⟩⟩
  match i, hf with
  | 0, hf =>
    simp [pageL] at hf
    subst hf
    exact ⟨_, _, b2.cellv 0 rfl, b2.cellv 1 rfl, b2.cellv 2 rfl, st _ _ _ (by decide) b0, by decide⟩
  | 1, hf =>
    simp [pageL] at hf
    subst hf
    exact ⟨_, _, b2.cellv 3 rfl, b2.cellv 4 rfl, b2.cellv 5 rfl, st _ _ _ (by decide) b1, by decide⟩
  | i + 2, hf => simp [pageL] at hf

set_option maxRecDepth 100000 in
set_option maxHeartbeats 2000000 in
theorem awake_any (w : World) (ht : Tab w) : Calls Tryz.prog 6 #[] w fun e w' => e = .returned (.bool true) ∧ New w w' := by
  have HT := hid ht
  have HPA := hid (fun w => page_any w)
  have HP1 := hid (fun a (W : World) (h : FilesAt W a 2 pageL) (t : Tab W) => page_old ▸ Pieces_ok a 2 pageL 16 false W h t (by decide) (by decide) page_way)
  have HP2 := hid (fun a (W : World) (h : FilesAt W a 2 pageL) (t : Tab W) => page_new ▸ Pieces_ok a 2 pageL 16 true W h t (by decide) (by decide) page_way)
  have HAL := hid (fun a (W : World) (h : FilesAt W a 2 pageL) (t : Tab W) => Align_ok a 2 pageL 16 W h t (by decide) (by decide) page_valid (by decide) (by decide) (by decide) (by rw [page_padded]; decide) (by rw [page_padded]; decide) (by rw [page_padded]; intro f hf; simp at hf; rcases hf with rfl | rfl | rfl <;> decide))
  clear ht
  go_enter Tryz.func6, Tryz.ntmps6
  go_wp2_with fail
  refine (HPA.out _).mono ?_
  rintro e w1 ⟨rfl, f1, n1⟩
  have F1 := hid f1; have N1 := hid n1
  clear f1 n1
  go_wp2_with fail
  refine (HP1.out _ _ F1.out (HT.out.new N1.out)).mono ?_
  rintro e w2 ⟨rfl, n2⟩
  have N2 := hid (N1.out.trans n2)
  clear n2
  go_wp2_with fail
  refine (HPA.out _).mono ?_
  rintro e w3 ⟨rfl, f3, n3⟩
  have F3 := hid f3; have N3 := hid (N2.out.trans n3)
  clear f3 n3
  go_wp2_with fail
  refine (HP2.out _ _ F3.out (HT.out.new N3.out)).mono ?_
  rintro e w4 ⟨rfl, n4⟩
  have N4 := hid (N3.out.trans n4)
  clear n4
  go_wp2_with fail
  refine (HPA.out _).mono ?_
  rintro e w5 ⟨rfl, f5, n5⟩
  have F5 := hid f5; have N5 := hid (N4.out.trans n5)
  clear f5 n5
  go_wp2_with fail
  refine (HAL.out _ _ F5.out (HT.out.new N5.out)).mono ?_
  rw [page_padded]
  rintro e w6 ⟨a', c', rfl, f6, n6⟩
  have N6 := hid (N5.out.trans n6)
  obtain ⟨b, o, rfl, hb, hc⟩ := f6.get (by decide)
  obtain ⟨pa, pc, -, g1, g2, -, -⟩ := hc 1 (by decide)
  have g1' : w6.cell? ⟨b, o + 3 + 1, none⟩ = some (.int .i64 12) := g1
  have g2' : w6.cell? ⟨b, o + 3 + 2, none⟩ = some (.bool true) := g2
  clear f6 n6 hc g1 g2
  go_wp2
  go_ret
  exact ⟨rfl, N6.out⟩
end Go.Proofs.YtnccfikimmolgaaGreatDoor

namespace Go.Proofs.YtnccfikimmolgaaGreatDoor
set_option linter.unusedSimpArgs false
set_option linter.unusedVariables false
open Go.RowKit
set_option maxRecDepth 100000 in
set_option maxHeartbeats 2000000 in
theorem light_any (a : Option Addr) (c : Nat) (l : List FileV) (w : World) (h : FilesAt w a c l) :
    Calls Tryz.prog 15 #[.slice a l.length c] w fun e w' => (∃ v, e = .returned (.bool v)) ∧ New w w' := by
  have hm1 := h.room; have hm2 := h.cap
  unfold maxLen at hm2
  by_cases hz : 0 < l.length
  · obtain ⟨b1, o1, rfl, hb1, hc1⟩ := h.get hz
    have HC1 := hid hc1
    clear h hc1
    go_enter Tryz.func15, Tryz.ntmps15
    go_wp2
    go_loopw [10, 3] (fun i n wr => ∃ (k : Nat) (x : Int), i = .int .i64 k ∧ n = .int .i64 x ∧ k ≤ l.length ∧ New w wr) (fun i _ _ => l.length - (intOf i).toNat)
    case atStart => exact ⟨0, 0, rfl, rfl, by omega, Mod.refl _ _⟩
    case round =>
      obtain ⟨k, x, rfl, rfl, hk, hn⟩ := hrel
      have HN := hid hn
      by_cases hlt : k < l.length
      · obtain ⟨pa, pc, g0, g1, g2, hst, -⟩ := (HC1.out k hlt).new hn
        clear hn
        obtain ⟨f, hf⟩ : ∃ f, f = l[k] := ⟨_, rfl⟩
        rw [← hf] at g0 g1 g2 hst
        clear hf
        have hr1 := hst.room; have hr2 := hst.cap
        unfold maxLen at hr2
        have HST := hid hst
        clear hst
        by_cases h12 : (12 : Int) < f.path.length
        · go_wp2
          go_ret
          first | exact ⟨⟨_, rfl⟩, HN.out.alloc _⟩ | exact ⟨.inl rfl, HN.out.alloc _⟩ | exact ⟨.inr rfl, HN.out.alloc _⟩
        · by_cases hp0 : 0 < f.path.length
          · obtain ⟨pb, po, rfl, hpb, hpc⟩ := HST.out.get hp0
            have HPC := hid hpc
            clear hpc
            go_wp2
            go_loopw [21, 3] (fun j n wr2 => ∃ (m : Nat) (y : Int), j = .int .i64 m ∧ n = .int .i64 y ∧ m ≤ f.path.length ∧ wr2 = wr.alloc (.cells #[.slice (some ⟨pb, po, none⟩) f.path.length pc, .int .i64 f.len, .bool f.pad] 51)) (fun j _ _ => f.path.length - (intOf j).toNat)
            case atStart => exact ⟨0, x, rfl, rfl, by omega, rfl⟩
            case round =>
              obtain ⟨m, y, rfl, rfl, hm, rfl⟩ := hrel
              by_cases hmt : m < f.path.length
              · have q0 := HPC.out m hmt
                have hsz : (f.path[m]).size ≤ 9223372036854775807 := HST.out.small _ (List.getElem_mem hmt)
                obtain ⟨s, hs⟩ : ∃ s, s = f.path[m] := ⟨_, rfl⟩
                rw [← hs] at q0 hsz
                clear hs
                go_wp2
                exact ⟨⟨m + 1, _, by simp, rfl, by omega, trivial⟩, by simp [intOf]; omega⟩
              · go_wp2
                exact ⟨⟨k + 1, y, by simp, rfl, by omega, HN.out.alloc _⟩, by simp [intOf]; omega⟩
          · have hpl : f.path.length = 0 := by omega
            rw [hpl] at g0
            clear hpl
            go_wp2
            refine wp_loop_rounds 1 ?_
            rw [rounds_succ]
            go_wp2
            exact ⟨⟨k + 1, x, by simp, rfl, by omega, HN.out.alloc _⟩, by simp [intOf]; omega⟩
      · clear hn
        go_wp2
        all_goals go_ret
        all_goals first | exact ⟨⟨_, rfl⟩, HN.out⟩ | exact ⟨.inl rfl, HN.out⟩ | exact ⟨.inr rfl, HN.out⟩
  · obtain rfl : l = [] := List.eq_nil_of_length_eq_zero (by omega)
    clear h
    go_enter Tryz.func15, Tryz.ntmps15
    go_wp2
    refine wp_loop_rounds 1 ?_
    rw [rounds_succ]
    go_wp2
    all_goals go_ret
    all_goals first | exact ⟨⟨_, rfl⟩, Mod.refl _ _⟩ | exact ⟨.inl rfl, Mod.refl _ _⟩ | exact ⟨.inr rfl, Mod.refl _ _⟩
end Go.Proofs.YtnccfikimmolgaaGreatDoor

namespace Go.Proofs.YtnccfikimmolgaaGreatDoor
set_option linter.unusedSimpArgs false
set_option linter.unusedVariables false
open Go.ChangeShapes Go.WideShapes Go.ChangeAt Go.RowKit Go.Deep

theorem wf_bounds {n : Int} (h : (Lit.int .i64 n).wf = true) : -9223372036854775808 ≤ n ∧ n ≤ 9223372036854775807 := by
  simp [Lit.wf, IntKind.min, IntKind.max, IntKind.signed, IntKind.bits] at h
  omega
theorem own : ownKnob Tryz.prog.godebug = none := by kernel_rfl
theorem laidOut : laidOutB Tryz.prog = true := by kernel_rfl
def tables : List (String × DataW Unit) := Rows.filesPlacesRow.laid
theorem tables_plain (w : World) : laidMetH Tryz.prog tables w = laidMet Tryz.prog tables w := MakeChecks.laidMetH_plain _ _ _ (by kernel_rfl)
theorem tab_global : Tryz.prog.globalNamed "internal/strconv.uint64pow10" = some 3 := by kernel_rfl
theorem tab_type : (Tryz.prog.globals[3]?).map (·.type) = some 182 := by kernel_rfl
theorem tab_of {W : World} (h : laidMetH Tryz.prog tables W) : Tab W := by
  rw [tables_plain] at h
  have h2 := h.tail.tail
  exact Lib.tabIs_of_head (rest := []) (t := 182) (e := 135) (n := 20) tab_global tab_type Tryz.underlying182 Tryz.underlying135 (by kernel_rfl) (by kernel_rfl) h2
theorem door_met (os : Os) (args : Array Value) : laidMetH Tryz.prog tables ((World.doorLaid Tryz.prog 24 os).forCall (fun _ _ => 0) ⟨#[], args, []⟩).memory :=
  laidMetH_of_parts3 (fuel := 8) (laidMet_of_run' 8 (by kernel_rfl) (by kernel_rfl)) (by kernel_rfl) (by kernel_rfl)

section
variable {H : Type} {enc : TypeId × Value → H} {w : World} {base : Nat} {spare : Nat → Bool} {held : Bool}
theorem open_path {fuel : Nat} {v : Value} {x : DataW H × List MemPlace} (h : DataW.trod enc Tryz.prog w base spare held fuel 49 [v] = some x) : ∃ a c p, v = .slice a p.length c ∧ StrsAt w a c p := by
  rcases open_strs Tryz.underlying49 Tryz.underlying9 (by kernel_rfl) h with ⟨hcs, -⟩ | ⟨a, len, cap, m, Sx, hcs, -, hl, hc, hm, -, hx⟩
  · simp at hcs
    subst hcs
    exact ⟨none, 0, [], rfl, by simp, by simp [maxLen], by simp, .inl rfl⟩
  · simp at hcs
    subst hcs
    have hlm : len ≤ m := by rw [hm]; split <;> omega
    refine ⟨some a, cap, (List.range len).map Sx, by simp, by simpa using hl, hc, fun s hs => ?_, ?_⟩
    · simp at hs
      obtain ⟨i, hi, rfl⟩ := hs
      exact (hx i (by omega)).2
    · by_cases hz : len = 0
      · exact .inl (by simp [hz])
      · have h0 := (hx 0 (by omega)).1
        obtain ⟨b, o, sp⟩ := a
        have hs : sp = none := cell_spot h0
        subst hs
        refine .inr ⟨b, o, rfl, World.block_lt_of_cell? _ _ h0, fun i s hi => ?_⟩
        simp only [List.getElem?_map, Option.map_eq_some_iff] at hi
        obtain ⟨j, hj, rfl⟩ := hi
        have hjl : j < len ∧ j = i := by
          have := List.getElem?_eq_some_iff.1 hj
          obtain ⟨hlt, he⟩ := this
          simp at hlt he
          omega
        obtain ⟨hjl, rfl⟩ := hjl
        have := (hx j (by omega)).1
        rw [add_none] at this
        exact this
theorem open_files {fuel : Nat} {cs : List Value} {x : DataW H × List MemPlace} (h : DataW.trod enc Tryz.prog w base spare held fuel 22 cs = some x) : ∃ a c l, cs = [.slice a l.length c] ∧ FilesAt w a c l := by
  rcases open_slice_fields Tryz.underlying22 Tryz.underlying51 (by kernel_rfl) (by kernel_rfl) h with ⟨hcs, _⟩ | ⟨a, len, cap, m, D, Pl, hcs, _, hl, hmx, hmm, _, hcell⟩
  · exact ⟨none, 0, [], by simpa using hcs, by simp, by simp [maxLen], .inl rfl⟩
  · have hlm : len ≤ m := by rw [hmm]; split <;> omega
    have hc : ∀ i, i < len → ∃ f : FileV, ∃ pa pc, w.cell? (a.add (i * 3)) = some (.slice pa f.path.length pc) ∧ w.cell? (a.add (i * 3 + 1)) = some (.int .i64 f.len) ∧ w.cell? (a.add (i * 3 + 2)) = some (.bool f.pad) ∧ StrsAt w pa pc f.path ∧ (-9223372036854775808 ≤ f.len ∧ f.len ≤ 9223372036854775807) := by
      intro i hi
      obtain ⟨ys, n, _, _, _, hfs⟩ := hcell i (by omega)
      obtain ⟨u0, y0, e0, _, t0⟩ := hfs 0 _ rfl
      obtain ⟨u1, y1, e1, _, t1⟩ := hfs 1 _ rfl
      obtain ⟨u2, y2, e2, _, t2⟩ := hfs 2 _ rfl
      obtain ⟨pa, pc, p, rfl, hp⟩ := open_path t0
      obtain ⟨x1, c1, -, wf⟩ := DataW.trod_int Tryz.underlying3 t1
      obtain ⟨x2, c2, -⟩ := DataW.trod_bool Tryz.underlying4 t2
      simp at c1 c2
      subst c1 c2
      refine ⟨⟨p, x1, x2⟩, pa, pc, e0, e1, e2, hp, ?_⟩
      exact wf_bounds wf
    obtain ⟨L, hL, hp⟩ := list_of len hc
    subst hL
    refine ⟨some a, cap, L, hcs, hl, hmx, ?_⟩
    by_cases hz : L.length = 0
    · exact .inl (List.eq_nil_of_length_eq_zero hz)
    · obtain ⟨f, pa, pc, e0, -⟩ := hc 0 (by omega)
      have hs := cell_spot e0
      obtain ⟨b, o, sp⟩ := a
      have hs' : sp = none := hs
      subst hs'
      refine .inr ⟨b, o, rfl, World.block_lt_of_cell? _ _ e0, fun i f hf => ?_⟩
      obtain ⟨pa, pc, q0, q1, q2, q3, q4⟩ := hp i f hf
      rw [add_none] at q0 q1 q2
      exact ⟨pa, pc, q0, by simpa [Nat.add_assoc] using q1, by simpa [Nat.add_assoc] using q2, q3, q4⟩
end
end Go.Proofs.YtnccfikimmolgaaGreatDoor
