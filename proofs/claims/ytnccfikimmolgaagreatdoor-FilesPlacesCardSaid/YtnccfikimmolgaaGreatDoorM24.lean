/-
  Several texts in one, in their build order. The walks of copied, bare (of a list without pads). Conditions: the list lies as told, has at most 40 files, and their paths at most eight parts.
-/
import Derived.Test.YtnccfikimmolgaaGreatDoorM23
namespace Go.Proofs.YtnccfikimmolgaaGreatDoor
set_option linter.unusedSimpArgs false
set_option linter.unusedVariables false
open Go.RowKit

theorem info_file : (Tryz.prog.info? 51).map (fun i => (i.zero, i.size, i.bytes)) = some (some (.agg #[.slice none 0 0, .int .i64 0, .bool false]), 3, 40) := by kernel_rfl
theorem StrsAt.mod2 {S : Nat → Prop} {w w' : World} {a : Option Addr} {c : Nat} {p : List ByteArray} (h : StrsAt w a c p) (hm : Mod S w w') (hs : ∀ x, a = some x → ¬ S x.block) : StrsAt w' a c p := by
  refine ⟨h.room, h.cap, h.small, ?_⟩
  rcases h.at' with h | ⟨b, o, e, hb, hc⟩
  · exact .inl h
  · exact .inr ⟨b, o, e, Nat.lt_of_lt_of_le hb hm.size, fun i s hs' => Mod.cellv hm (hc i s hs') (fun q => hs _ e q)⟩
theorem three_new (w : World) (x y z : Value) (t : TypeId) : ∀ (j : Nat) (u : Value), [x, y, z][j]? = some u → (w.alloc (.cells #[x, y, z] t)).cell? ((⟨w.heap.size, 0, none⟩ : Addr).add j) = some u := by
  intro j u hj
  rw [add_none]
  have hb := Blk.new w #[x, y, z] t
  match j, hj with
  | 0, hj => simp at hj; subst hj; exact hb.cellv 0 rfl
  | 1, hj => simp at hj; subst hj; exact hb.cellv 1 rfl
  | 2, hj => simp at hj; subst hj; exact hb.cellv 2 rfl
  | j + 3, hj => simp at hj
theorem Own.lt {w : World} {base : Nat} {v : Value} {E : List EntV} (h : Own w base v E) (k : Nat) (hk : v.ownBlock = some k) : k < w.heap.size := (h.row.lt k hk).2

theorem New.grown {w w1 w2 : World} {row : Option Nat} (n : New w w1) (g : w1.grownBy w2 row) (h : ∀ k, row = some k → w.heap.size ≤ k) : New w w2 :=
  ⟨g.os.trans n.os, g.tape.trans n.tape, g.output.trans n.output, Nat.le_trans n.size g.size, fun k hk hx => (g.block k (Nat.lt_of_lt_of_le hk n.size) (fun e => by have := h k e.symm; omega)).trans (n.block k hk hx)⟩
theorem copy_new {wr w1 : World} {x y z : Value} {t : TypeId} (n : New (wr.alloc (.cells #[x, y, z] t)) w1) (u : Value) (o : Obj) : New wr ((w1.setCell ⟨wr.heap.size, 0, none⟩ u).alloc o) :=
  (Mod.set (((Mod.refl _ _).alloc _).trans n) _ _ (.inr (Nat.le_refl _))).alloc _

set_option maxRecDepth 100000 in
set_option maxHeartbeats 4000000 in
theorem copied_any (a : Option Addr) (c : Nat) (l : List FileV) (w : World) (h : FilesAt w a c l) (hl : l.length ≤ 40) (hp : ∀ f ∈ l, f.path.length ≤ 8) :
    Calls Tryz.prog 107 #[.slice a l.length c] w fun e w' => ∃ v E, e = .returned v ∧ E.map (·.f) = l ∧ Own w' w.heap.size v E ∧ New w w' := by
  have hm1 := h.room; have hm2 := h.cap
  unfold maxLen at hm2
  obtain ⟨i0, hi, hz0, hz1, hz2⟩ := info_parts info_file
  by_cases hz : 0 < l.length
  · obtain ⟨b1, o1, rfl, hb1, hc1⟩ := h.get hz
    have HC1 := hid hc1
    have HPL := hid hp
    clear h hc1 hp
    go_enter Tryz.func107, Tryz.ntmps107
    go_wp2
    go_loopw [8, 3] (fun i out wr => ∃ (k : Nat) (E : List EntV) (o : Value), i = .int .i64 k ∧ o = out ∧ k ≤ l.length ∧ E.map (·.f) = l.take k ∧ Own wr w.heap.size o E ∧ New w wr) (fun i _ _ => l.length - (intOf i).toNat)
    case atStart => exact ⟨0, [], _, rfl, rfl, by omega, rfl, Own.nil _ _, Mod.refl _ _⟩
    case round =>
      obtain ⟨k, E, o, rfl, rfl, hk, hE, hO, hn⟩ := hrel
      have HN := hid hn
      have HE := hid hE
      have HO := hid hO
      have hsz := hn.size
      have HEL := hid (show E.length = k by have := congrArg List.length hE; simp at this; omega)
      clear hE hO
      by_cases hlt : k < l.length
      · obtain ⟨pa, pc, g0, g1, g2, hst, hlen⟩ := (HC1.out k hlt).new hn
        clear hn
        have HTK := hid (show l.take (k + 1) = l.take k ++ [l[k]] by rw [List.take_add_one, List.getElem?_eq_getElem hlt]; rfl)
        have hpl := HPL.out _ (List.getElem_mem hlt)
        obtain ⟨f, hf⟩ : ∃ f, f = l[k] := ⟨_, rfl⟩
        rw [← hf] at g0 g1 g2 hst hlen HTK hpl
        clear hf
        have HCL := hid (fun W (n : New wr W) => clone_any pa pc f.path W (hst.new n) hpl)
        have HLEN := hid hlen
        clear hst hlen hpl
        go_wp2_with (first | (go_at_call 134; refine (HCL.out _ ?_).mono ?_; (focus (exact ((Mod.refl _ _).alloc _))); rintro e w1 ⟨a', c', rfl, hs1, hf1, n1⟩; have N1 := hid n1; have S1 := hid hs1; have F1 := hid hf1; obtain ⟨b0, b1, b2, b3, b4⟩ := Blk.file (f := f) (pa := pa) (pc := pc) (n1.blk (Blk.new wr #[.slice pa f.path.length pc, .int .i64 f.len, .bool f.pad] 51)); have bf := b3 0; clear n1 hs1 hf1 b3) | (at_builtin; refine wpList_append_own_at _ rfl _ _ 22 rfl w.heap.size 51 i0 _ 3 40 Tryz.underlying22 hi hz0 hz1 hz2 rfl (by decide) o k (rowOf E) rfl ?ow ⟨w1.heap.size, 0, none⟩ 1 1 [.slice a' f.path.length c', .int .i64 f.len, .bool f.pad] rfl rfl ?hn ?h1 ?h63 ?hby ?hba ?_))
        case ow => exact HEL.out ▸ (HO.out.new (copy_new N1.out _ _)).row
        case hn =>
          have := three_new (w1.setCell ⟨wr.heap.size, 0, none⟩ (.slice a' f.path.length c')) (.slice a' f.path.length c') (.int .i64 f.len) (.bool f.pad) 51
          simpa using this
        case h1 => intro u hu; simp at hu; rcases hu with rfl | rfl | rfl <;> rfl
        case h63 => unfold maxLen; omega
        case hby => omega
        case hba => have := (copy_new N1.out (.slice a' f.path.length c') (.cells #[.slice a' f.path.length c', .int .i64 f.len, .bool f.pad] 51)).size; omega
        intro o' w3 r3 g3 _ l3
        have HNW := copy_new N1.out (.slice a' f.path.length c') (.cells #[.slice a' f.path.length c', .int .i64 f.len, .bool f.pad] 51)
        have hfar := F1.out
        have hO3 : Own w3 w.heap.size o' (E ++ [⟨a', c', f⟩]) := by
          refine Own.add (e := ⟨a', c', f⟩) (HO.out.new HNW) (by rw [HEL.out]; exact r3) g3 (by simpa using l3) ?_ HLEN.out ?_
          · refine (S1.out.mod2 (S := fun j => j = wr.heap.size) ?_ (fun x hx e => ?_)).alloc _
            · exact Mod.set (Mod.refl _ _) _ _ (.inl rfl)
            · have := (hfar x hx).1
              simp at this
              omega
          · rcases S1.out.at' with q | ⟨b, y, q, -, -⟩
            · exact .inl q
            · have h1 := (hfar _ q).1
              have h2 := (hfar _ q).2
              simp at h1 h2
              refine .inr ⟨_, q, fun e => ?_, by simp; omega⟩
              have := HO.out.lt _ e.symm
              simp at this
              omega
        have HO3 := hid hO3
        have HN3 : Hid (New w w3) := hid (New.grown (HN.out.trans HNW) g3 (fun j hj => (HO.out.row.lt j hj).1))
        clear hO3 HNW r3 g3 l3 hfar
        go_wp2
        exact ⟨⟨k + 1, E ++ [⟨a', c', f⟩], _, by simp, rfl, by omega, by rw [HTK.out, List.map_append, HE.out]; rfl, HO3.out, HN3.out⟩, by simp [intOf]; omega⟩
      · have hkl : l.take k = l := List.take_of_length_le (by omega)
        rw [hkl] at HE
        clear hkl hn
        go_wp2
        go_ret
        exact ⟨_, E, rfl, HE.out, HO.out, HN.out⟩
  · obtain rfl : l = [] := List.eq_nil_of_length_eq_zero (by omega)
    clear h hp
    go_enter Tryz.func107, Tryz.ntmps107
    go_wp2
    refine wp_loop_rounds 1 ?_
    rw [rounds_succ]
    go_wp2
    go_ret
    exact ⟨_, [], rfl, rfl, Own.nil _ _, Mod.refl _ _⟩
end Go.Proofs.YtnccfikimmolgaaGreatDoor
