/-
  The walks of the reference's bare and padded. Conditions: the list lies as told, has at most 40 files, and their paths at most eight parts and no less than one.
-/
import Derived.Test.YtnccfikimmolgaaDoorAg
namespace Go.Proofs.YtnccfikimmolgaaDoor
set_option linter.unusedSimpArgs false
set_option linter.unusedVariables false
open Go.RowKit

theorem info_string : (Tryd.prog.info? 9).map (fun i => (i.zero, i.size, i.bytes)) = some (some (.string ⟨#[]⟩), 1, 16) := by kernel_rfl
theorem row_empty (w : World) (base : Nat) (h : base ≤ w.heap.size) : (w.alloc (.cells #[] 9)).ownsRow base 9 1 (.slice (some ⟨w.heap.size, 0, none⟩) 0 0) 0 [] :=
  ⟨rfl, .inr ⟨w.heap.size, 0, #[], rfl, h, Blk.new w #[] 9, Nat.le_refl _, by simp [maxLen], rfl, rfl⟩⟩
theorem copy_new2 {wr w1 : World} (n : New wr w1) (u : Value) (o : Obj) : New wr ((w1.setCell ⟨wr.heap.size, 0, none⟩ u).alloc o) :=
  (Mod.set n _ _ (.inr (Nat.le_refl _))).alloc _
theorem bare_next {l : List FileV} {k : Nat} (h : k < l.length) : bareL (l.take (k + 1)) = bareL (l.take k) ++ (if l[k].pad then [] else [l[k]]) := by
  unfold bareL
  rw [List.take_add_one, List.getElem?_eq_getElem h]
  simp only [Option.toList, List.filter_append]
  cases hq : l[k].pad <;> simp [hq]
set_option maxRecDepth 100000 in
set_option maxHeartbeats 4000000 in
theorem rbare_any (a : Option Addr) (c : Nat) (l : List FileV) (w : World) (h : FilesAt w a c l) (hl : l.length ≤ 40) (hp : ∀ f ∈ l, 1 ≤ f.path.length ∧ f.path.length ≤ 8) :
    Calls Tryd.prog 48 #[.slice a l.length c] w fun e w' => ∃ v E, e = .returned v ∧ E.map (·.f) = bareL l ∧ Own w' w.heap.size v E ∧ New w w' := by
  have hm1 := h.room; have hm2 := h.cap
  unfold maxLen at hm2
  obtain ⟨i0, hi, hz0, hz1, hz2⟩ := info_parts info_file
  obtain ⟨i1, hj, hy0, hy1, hy2⟩ := info_parts info_string
  by_cases hz : 0 < l.length
  · obtain ⟨b1, o1, rfl, hb1, hc1⟩ := h.get hz
    have HC1 := hid hc1
    have HPL := hid hp
    clear h hc1 hp
    go_enter Tryd.func48, Tryd.ntmps48
    go_wp2
    go_loopw [8, 3] (fun i out wr => ∃ (k : Nat) (E : List EntV) (o : Value), i = .int .i64 k ∧ o = out ∧ k ≤ l.length ∧ E.map (·.f) = bareL (l.take k) ∧ E.length ≤ k ∧ Own wr w.heap.size o E ∧ New w wr) (fun i _ _ => l.length - (intOf i).toNat)
    case atStart => exact ⟨0, [], _, rfl, rfl, by omega, rfl, by simp, Own.nil _ _, Mod.refl _ _⟩
    case round =>
      obtain ⟨k, E, o, rfl, rfl, hk, hE, hel, hO, hn⟩ := hrel
      have HN := hid hn
      have HE := hid hE
      have HO := hid hO
      have hsz := hn.size
      clear hE hO
      by_cases hlt : k < l.length
      · obtain ⟨pa, pc, g0, g1, g2, hst, hlen⟩ := (HC1.out k hlt).new hn
        clear hn
        have HTK := hid (bare_next hlt)
        have hpl := HPL.out _ (List.getElem_mem hlt)
        obtain ⟨f, hf⟩ : ∃ f, f = l[k] := ⟨_, rfl⟩
        rw [← hf] at g0 g1 g2 hst hlen HTK hpl
        clear hf
        have HLEN := hid hlen
        cases hpad : f.pad with
        | true =>
          rw [hpad] at g2
          have HTK2 := hid (show bareL (l.take (k + 1)) = bareL (l.take k) by rw [HTK.out, hpad]; simp)
          clear HTK hst hlen hpl hpad
          go_wp2
          exact ⟨⟨k + 1, E, _, by simp, rfl, by omega, by rw [HTK2.out]; exact HE.out, by omega, HO.out.new ((Mod.refl _ _).alloc _), HN.out.alloc _⟩, by simp [intOf]; omega⟩
        | false =>
          have HTK2 := hid (show bareL (l.take (k + 1)) = bareL (l.take k) ++ [f] by rw [HTK.out, hpad]; simp)
          have HPAD := hid hpad
          rw [hpad] at g2
          obtain ⟨pl1, pl2⟩ := hpl
          obtain ⟨pb, po, rfl, hpb, hpc⟩ := hst.get pl1
          have HPC := hid hpc
          have HST := hid hst
          clear HTK hst hlen hpc hpad
          go_wp2_with (at_builtin; refine wpList_append_own_at _ rfl _ _ 43 rfl w.heap.size 9 i1 _ 1 16 Tryd.underlying43 hj hy0 hy1 hy2 rfl (by decide) (.slice (some ⟨wr.heap.size + 1, 0, none⟩) 0 0) 0 [] rfl ?ow ⟨pb, po, none⟩ f.path.length pc (f.path.map Value.string) rfl (by simp) ?hn ?h1 ?h63 ?hby ?hba ?_)
          case ow =>
            have := row_empty (wr.alloc (.cells #[.slice (some ⟨pb, po, none⟩) f.path.length pc, .int .i64 f.len, .bool false] 45)) w.heap.size (by simp; omega)
            simpa using this
          case hn =>
            intro j u hj
            simp only [List.getElem?_map, Option.map_eq_some_iff] at hj
            obtain ⟨s, hs, rfl⟩ := hj
            rw [add_none]
            have hjl : j < f.path.length := (List.getElem?_eq_some_iff.1 hs).1
            have := HPC.out j hjl
            rw [show f.path[j] = s from (List.getElem?_eq_some_iff.1 hs).2] at this
            exact (((Mod.refl (fun _ => False) wr).alloc _).alloc _).cellv this (fun q => q)
          case h1 => intro u hu; simp at hu; obtain ⟨s, -, rfl⟩ := hu; rfl
          case h63 => unfold maxLen; omega
          case hby => omega
          case hba => simp; omega
          intro p3 w3 r3 g3 _ l3
          obtain ⟨qa, qc, rfl, hs3, hf3⟩ := owns_strs (base := w.heap.size) (p := f.path) (by simpa using r3) HST.out.small
          have HN3 : Hid (New wr w3) := hid (New.grown (((Mod.refl _ _).alloc _).alloc _) g3 (fun j hj => by simp [Value.ownBlock] at hj; omega))
          have HF3 : Hid (∀ x, qa = some x → wr.heap.size + 1 ≤ x.block ∧ x.block < w3.heap.size) := hid (fun x hx => by
            subst hx
            refine ⟨?_, (hf3 x rfl).2⟩
            simp [Value.ownBlock] at l3
            omega)
          have HS3 := hid hs3
          obtain ⟨x0, x1, x2, x3, x4⟩ := Blk.file (f := ⟨f.path, f.len, false⟩) (pa := some ⟨pb, po, none⟩) (pc := pc) (((Blk.new wr #[.slice (some ⟨pb, po, none⟩) f.path.length pc, .int .i64 f.len, .bool false] 45).alloc (.cells #[] 9)).of_heap (g3.block wr.heap.size (by simp; omega) (by simp [Value.ownBlock])))
          have x5 := x3 0
          clear r3 g3 l3 hs3 hf3 x3
          go_wp2_with (at_builtin; refine wpList_append_own_at _ rfl _ _ 22 rfl w.heap.size 45 i0 _ 3 40 Tryd.underlying22 hi hz0 hz1 hz2 rfl (by decide) o E.length (rowOf E) rfl ?ow2 ⟨w3.heap.size, 0, none⟩ 1 1 [.slice qa f.path.length qc, .int .i64 f.len, .bool false] rfl rfl ?hn2 ?h12 ?h632 ?hby2 ?hba2 ?_)
          case ow2 => exact (HO.out.new (copy_new2 HN3.out _ _)).row
          case h12 => exact ⟨rfl, rfl, rfl⟩
          case h632 => unfold maxLen; omega
          case hby2 => omega
          case hba2 => have := (copy_new2 HN3.out (.slice qa f.path.length qc) (.cells #[.slice qa f.path.length qc, .int .i64 f.len, .bool false] 45)).size; omega
          intro o4 w4 r4 g4 _ l4
          have HNW := copy_new2 HN3.out (.slice qa f.path.length qc) (.cells #[.slice qa f.path.length qc, .int .i64 f.len, .bool false] 45)
          have hfar := HF3.out
          have HO4 : Hid (Own w4 w.heap.size o4 (E ++ [⟨qa, qc, f⟩])) := by
            refine Own.add (e := ⟨qa, qc, f⟩) (HO.out.new HNW) (by rw [show EntV.cells ⟨qa, qc, f⟩ = [.slice qa f.path.length qc, .int .i64 f.len, .bool false] by simp [EntV.cells, HPAD.out]]; exact r4) g4 (by simpa using l4) ?_ HLEN.out ?_
            · refine (HS3.out.mod2 (S := fun j => j = wr.heap.size) ?_ (fun x hx e => ?_)).alloc _
              · exact Mod.set (Mod.refl _ _) _ _ (.inl rfl)
              · have := (hfar x hx).1
                omega
            · rcases HS3.out.at' with q | ⟨b, y, q, -, -⟩
              · exact .inl q
              · have h1 := (hfar _ q).1
                have h2 := (hfar _ q).2
                simp at h1 h2
                refine .inr ⟨_, q, fun e => ?_, by simp; omega⟩
                have := HO.out.lt _ e.symm
                simp at this
                omega
          have HN4 : Hid (New w w4) := hid (New.grown (HN.out.trans HNW) g4 (fun j hj => (HO.out.row.lt j hj).1))
          clear HNW r4 g4 l4 hfar
          go_wp2
          exact ⟨⟨k + 1, E ++ [⟨qa, qc, f⟩], _, by simp, rfl, by omega, by rw [HTK2.out, List.map_append, HE.out]; rfl, by simp; omega, HO4.out, HN4.out⟩, by simp [intOf]; omega⟩
      · have hkl : l.take k = l := List.take_of_length_le (by omega)
        rw [hkl] at HE
        clear hkl hn
        go_wp2
        go_ret
        exact ⟨_, E, rfl, HE.out, HO.out, HN.out⟩
  · obtain rfl : l = [] := List.eq_nil_of_length_eq_zero (by omega)
    clear h hp
    go_enter Tryd.func48, Tryd.ntmps48
    go_wp2
    refine wp_loop_rounds 1 ?_
    rw [rounds_succ]
    go_wp2
    go_ret
    exact ⟨_, [], rfl, rfl, Own.nil _ _, Mod.refl _ _⟩
end Go.Proofs.YtnccfikimmolgaaDoor
