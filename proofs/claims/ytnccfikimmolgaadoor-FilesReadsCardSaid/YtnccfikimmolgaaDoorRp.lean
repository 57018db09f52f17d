/-
  The walk of the reference's padded. Condition: what its bare answers.
-/
import Derived.Test.YtnccfikimmolgaaDoorRb
namespace Go.Proofs.YtnccfikimmolgaaDoor
set_option linter.unusedSimpArgs false
set_option linter.unusedVariables false
open Go.RowKit

theorem rlack_is {piece : Int} (h : pieceOf piece = true) {x : Int} (hx : 0 ≤ x) : (wrap64 (piece - x % piece)).tmod piece = (-x) % piece := by
  have hp := piece_range h
  have h1 := Int.emod_nonneg x (show piece ≠ 0 by omega)
  have h2 := Int.emod_lt_of_pos x (show 0 < piece by omega)
  rw [show wrap64 (piece - x % piece) = piece - x % piece by unfold wrap64; omega, Int.tmod_eq_emod_of_nonneg (by omega), Int.sub_emod, Int.emod_self, Int.emod_emod_of_dvd _ (Int.dvd_refl piece)]
  rw [show -x = 0 - x by omega, Int.sub_emod 0 x]
  simp
theorem lack_pos {piece x : Int} (hx : 0 ≤ x) (h : 0 < (-x) % piece) : 0 < x := by
  rcases Int.lt_or_eq_of_le hx with h1 | h1
  · exact h1
  · subst h1
    simp at h
set_option maxRecDepth 100000 in
set_option maxHeartbeats 4000000 in
theorem rpadded_go (a : Option Addr) (c : Nat) (l bl : List FileV) (piece : Int) (w : World) (hlen : bl.length ≤ 40) (hf : ∀ f ∈ bl, 0 ≤ f.len ∧ f.len ≤ 65536) (hp : pieceOf piece = true) 
    (hb : Calls Tryd.prog 48 #[.slice a l.length c] w fun e w' => ∃ v E, e = .returned v ∧ E.map (·.f) = bl ∧ Own w' w.heap.size v E ∧ New w w') :
    Calls Tryd.prog 45 #[.slice a l.length c, .int .i64 piece] w fun e w' => ∃ v E, e = .returned v ∧ E.map (·.f) = padded piece 0 bl ∧ Own w' w.heap.size v E ∧ New w w' := by
  obtain ⟨p1, p2⟩ := piece_range hp
  have HPC := hid hp
  have HB := hid hb
  have HF := hid hf
  obtain ⟨i0, hi, hz0, hz1, hz2⟩ := info_parts info_file
  clear hp hb hf
  go_enter Tryd.func45, Tryd.ntmps45
  go_wp2_with (go_at_call 48; refine HB.out.mono ?_; rintro e w1 ⟨v, E0, rfl, hE, hO, n1⟩; have HO0 := hid hO; have HE0 := hid hE; have N1 := hid n1; obtain ⟨a', c', rfl, hfa⟩ := hO.files; rw [hE] at hfa; have HFA := hid hfa; have hel : E0.length = bl.length := (by have := congrArg List.length hE; simpa using this); have hro := hfa.room; have hca := hfa.cap; rw [hel]; clear hE n1 hfa hO hel)
  unfold maxLen at hca
  go_loopw [13, 5, 6] (fun i out row wr => ∃ (k : Nat) (E : List EntV) (o : Value) (x : Int), i = .int .i64 k ∧ o = out ∧ row = .int .i64 x ∧ k ≤ bl.length ∧ 0 ≤ x ∧ x ≤ 70000 * k ∧ E.length ≤ 2 * k ∧ E.map (·.f) ++ padded piece x (bl.drop k) = padded piece 0 bl ∧ Own wr w1.heap.size o E ∧ New w1 wr) (fun i _ _ _ => bl.length - (intOf i).toNat)
  case atStart => exact ⟨0, [], _, 0, rfl, rfl, rfl, by omega, by omega, by omega, by simp, by simp, Own.nil _ _, Mod.refl _ _⟩
  case round =>
    obtain ⟨k, E, o, x, rfl, rfl, rfl, hk, hx0, hx1, hel, hE, hO, hn⟩ := hrel
    have HN := hid hn
    have HE := hid hE
    have HO := hid hO
    have hsz := hn.size
    clear hE hO
    by_cases hlt : k < bl.length
    · obtain ⟨b1, o1, rfl, hb1, hc1⟩ := HFA.out.get (by omega)
      have hfa1 := hc1 k hlt
      clear hc1
      have HDK := hid (show bl.drop k = bl[k] :: bl.drop (k + 1) from List.drop_eq_getElem_cons hlt)
      have hff := HF.out _ (List.getElem_mem hlt)
      obtain ⟨f, hf⟩ : ∃ f, f = bl[k] := ⟨_, rfl⟩
      rw [← hf] at hfa1 HDK hff
      clear hf
      obtain ⟨pa, pc, z0, z1, z2, hst, hlenf⟩ := hfa1
      have g0 := hn.cellv z0
      have g1 := hn.cellv z1
      have g2 := hn.cellv z2
      clear z0 z1 z2 hn
      have HS1 := hid hst
      have HLEN := hid hlenf
      obtain ⟨f0, f1⟩ := hff
      clear hst hlenf
      have hlk := rlack_is HPC.out hx0
      have hl0 : 0 ≤ (-x) % piece := Int.emod_nonneg _ (by omega)
      have hl1 : (-x) % piece < piece := Int.emod_lt_of_pos _ (by omega)
      by_cases hpos : 0 < f.len ∧ 0 < (-x) % piece
      · have HPO := hid hpos
        obtain ⟨t1, t2⟩ := hpos
        have t3 := lack_pos hx0 t2
        have HIT := hid (fun W (n : New wr W) => decimal_any ((-x) % piece) (by omega) (by omega) W)
        have HSZ := hid (itoa_size (n := (-x) % piece) (by omega) (by omega))
        go_wp2_with (first | (go_at_call 62; refine (HIT.out _ ?_).mono ?_; (focus (exact ((Mod.refl _ _).alloc _))); rintro e w2 ⟨rfl, n2⟩; have N2 := hid n2; have NB2 : Hid (New wr w2) := hid (((Mod.refl _ _).alloc _).trans n2); have BX := hid (n2.blk (Blk.new wr #[.slice pa f.path.length pc, .int .i64 f.len, .bool f.pad] 45)); clear n2) | (at_builtin; refine wpList_append_own_at _ rfl _ _ 22 rfl w1.heap.size 45 i0 _ 3 40 Tryd.underlying22 hi hz0 hz1 hz2 rfl (by decide) (o) (E.length) (rowOf (E)) rfl ?owA ⟨w2.heap.size + 1, 0, none⟩ 1 1 [.slice (some ⟨w2.heap.size, 0, none⟩) 2 2, .int .i64 ((-x) % piece), .bool true] rfl rfl ?hnA ?h1A ?h63A ?hbyA ?hbaA ?_))
        case owA => exact own_len (HO.out.new (NB2.out.trans (((Mod.refl _ _).alloc _).alloc _))) rfl
        case hnA => have := three_new (w2.alloc (.cells #[.string ⟨#[46, 112, 97, 100]⟩, .string (itoaB ((-x) % piece))] 9)) (.slice (some ⟨w2.heap.size, 0, none⟩) 2 2) (.int .i64 ((-x) % piece)) (.bool true) 45; simpa using this
        case h1A => first | exact ⟨rfl, rfl, rfl⟩ | (intro u hu; simp at hu; rcases hu with rfl | rfl | rfl <;> rfl)
        case h63A => unfold maxLen; omega
        case hbyA => omega
        case hbaA => have := NB2.out.size; simp; omega
        intro o3 w3 r3 g3 _ l3
        have hsz2 := NB2.out.size
        have HO3 := hid (own_next (HO.out.new (NB2.out.trans (((Mod.refl _ _).alloc _).alloc _))) rfl ⟨some ⟨w2.heap.size, 0, none⟩, 2, ⟨padPath ((-x) % piece), (-x) % piece, true⟩⟩ rfl r3 g3 (by simpa using l3) ((strs_two w2 _ HSZ.out).alloc _) ⟨by show -9223372036854775808 ≤ (-x) % piece; omega, by show (-x) % piece ≤ 9223372036854775807; omega⟩ (.inr ⟨_, rfl, fun q => by have := HO.out.lt _ q.symm; simp at this; omega, by simp; omega⟩))
        have HN3 : Hid (New w1 w3) := hid (New.grown ((HN.out.trans NB2.out).trans (((Mod.refl _ _).alloc _).alloc _)) g3 (fun j hj => (HO.out.row.lt j hj).1))
        have HNE3 : Hid (∀ k, o3.ownBlock = some k → k ≠ wr.heap.size) := hid (fun k hk e => by
          rcases l3 with l3 | l3
          · rw [l3] at hk; have := HO.out.lt k hk; omega
          · rw [l3] at hk; simp at hk; omega)
        have BX3 := hid (((BX.out.alloc (.cells #[.string ⟨#[46, 112, 97, 100]⟩, .string (itoaB ((-x) % piece))] 9)).alloc (.cells #[.slice (some ⟨w2.heap.size, 0, none⟩) 2 2, .int .i64 ((-x) % piece), .bool true] 45)).of_heap (g3.block wr.heap.size (by simp; omega) (fun q => by have := HO.out.lt _ q.symm; omega)))
        obtain ⟨v0, v1, v2, -, v4⟩ := Blk.file (f := f) (pa := pa) (pc := pc) BX3.out
        have HEL3 := hid (show (E ++ [(⟨some ⟨w2.heap.size, 0, none⟩, 2, ⟨padPath ((-x) % piece), (-x) % piece, true⟩⟩ : EntV)]).length = E.length + 1 by simp)
        have hsz3 := HN3.out.size
        clear r3 g3 l3
        go_wp2_with (first | (at_builtin; refine wpList_append_own_at _ rfl _ _ 22 rfl w1.heap.size 45 i0 _ 3 40 Tryd.underlying22 hi hz0 hz1 hz2 rfl (by decide) (o3) (E.length + 1) (rowOf ((E ++ [(⟨some ⟨w2.heap.size, 0, none⟩, 2, ⟨padPath ((-x) % piece), (-x) % piece, true⟩⟩ : EntV)]))) rfl ?owB ⟨w3.heap.size, 0, none⟩ 1 1 [.slice pa f.path.length pc, .int .i64 f.len, .bool f.pad] rfl rfl ?hnB ?h1B ?h63B ?hbyB ?hbaB ?_))
        case owB => exact own_len ((HO3.out).new ((Mod.refl _ _).alloc _)) HEL3.out
        try case hnB => have := three_new (w3) (.slice pa f.path.length pc) (.int .i64 f.len) (.bool f.pad) 45; simpa using this
        case h1B => first | exact ⟨rfl, rfl, rfl⟩ | (intro u hu; simp at hu; rcases hu with rfl | rfl | rfl <;> rfl)
        case h63B => unfold maxLen; omega
        case hbyB => omega
        case hbaB => have := HN3.out.size; simp; omega
        intro o4 w4 r4 g4 _ l4
        have HO4 := hid (own_next ((HO3.out).new ((Mod.refl _ _).alloc _)) HEL3.out ⟨pa, pc, f⟩ rfl r4 g4 (by simpa using l4) ((HS1.out.new HN3.out).new ((Mod.refl _ _).alloc _)) HLEN.out (old_far HS1.out (by have := HN3.out.size; simp; omega) (fun k hk => (HO3.out.row.lt k hk).1)))
        have HN4 : Hid (New w1 w4) := hid (New.grown ((HN3.out).trans ((Mod.refl _ _).alloc _)) g4 (fun j hj => (HO3.out.row.lt j hj).1))
        obtain ⟨x0, x1, x2, -, x4⟩ := Blk.file (f := f) (pa := pa) (pc := pc) (((BX3.out).alloc (.cells #[.slice pa f.path.length pc, .int .i64 f.len, .bool f.pad] 45)).of_heap (g4.block wr.heap.size (by have := Blk.lt (BX3.out); simp at this ⊢; omega) (fun q => (HNE3.out) wr.heap.size q.symm rfl)))
        clear r4 g4 l4
        go_wp2
        refine ⟨⟨k + 1, _, _, x + (-x) % piece + f.len, by simp, rfl, rfl, by omega, by omega, by omega, ?_, ?_, HO4.out, HN4.out⟩, by simp [intOf]; omega⟩
        · simp; omega
        · rw [← HE.out, HDK.out, padded_pos HPO.out]
          simp
      · have HPO := hid hpos
        have HNA := hid (HN.out.alloc (.cells #[.slice pa f.path.length pc, .int .i64 f.len, .bool f.pad] 45))
        have HOA := hid (HO.out.new ((Mod.refl _ _).alloc (.cells #[.slice pa f.path.length pc, .int .i64 f.len, .bool f.pad] 45)))
        by_cases t1 : 0 < f.len
        · have t2 : ¬ 0 < (-x) % piece := fun q => hpos ⟨t1, q⟩
          clear hpos
          by_cases t3 : 0 < x
          · skip
            go_wp2_with (first | (at_builtin; refine wpList_append_own_at _ rfl _ _ 22 rfl w1.heap.size 45 i0 _ 3 40 Tryd.underlying22 hi hz0 hz1 hz2 rfl (by decide) (o) (E.length) (rowOf (E)) rfl ?owC ⟨wr.heap.size + 1, 0, none⟩ 1 1 [.slice pa f.path.length pc, .int .i64 f.len, .bool f.pad] rfl rfl ?hnC ?h1C ?h63C ?hbyC ?hbaC ?_))
            case owC => exact own_len ((HOA.out).new ((Mod.refl _ _).alloc _)) rfl
            try case hnC => have := three_new (wr.alloc (.cells #[.slice pa f.path.length pc, .int .i64 f.len, .bool f.pad] 45)) (.slice pa f.path.length pc) (.int .i64 f.len) (.bool f.pad) 45; simpa using this
            case h1C => first | exact ⟨rfl, rfl, rfl⟩ | (intro u hu; simp at hu; rcases hu with rfl | rfl | rfl <;> rfl)
            case h63C => unfold maxLen; omega
            case hbyC => omega
            case hbaC => have := HNA.out.size; simp; omega
            intro o4 w4 r4 g4 _ l4
            have HO4 := hid (own_next ((HOA.out).new ((Mod.refl _ _).alloc _)) rfl ⟨pa, pc, f⟩ rfl r4 g4 (by simpa using l4) ((HS1.out.new HNA.out).new ((Mod.refl _ _).alloc _)) HLEN.out (old_far HS1.out (by have := HNA.out.size; simp; omega) (fun k hk => (HOA.out.row.lt k hk).1)))
            have HN4 : Hid (New w1 w4) := hid (New.grown ((HNA.out).trans ((Mod.refl _ _).alloc _)) g4 (fun j hj => (HOA.out.row.lt j hj).1))
            obtain ⟨x0, x1, x2, -, x4⟩ := Blk.file (f := f) (pa := pa) (pc := pc) (((Blk.new wr #[.slice pa f.path.length pc, .int .i64 f.len, .bool f.pad] 45).alloc (.cells #[.slice pa f.path.length pc, .int .i64 f.len, .bool f.pad] 45)).of_heap (g4.block wr.heap.size (by have := Blk.lt (Blk.new wr #[.slice pa f.path.length pc, .int .i64 f.len, .bool f.pad] 45); simp at this ⊢; omega) (fun q => ((fun (k : Nat) (hk : o.ownBlock = some k) (e : k = wr.heap.size) => absurd (HO.out.lt k hk) (by omega))) wr.heap.size q.symm rfl)))
            clear r4 g4 l4
            go_wp2
            refine ⟨⟨k + 1, _, _, x + f.len, by simp, rfl, rfl, by omega, by omega, by omega, ?_, ?_, HO4.out, HN4.out⟩, by simp [intOf]; omega⟩
            · simp; omega
            · rw [← HE.out, HDK.out, padded, if_neg (by exact HPO.out)]
              simp
          · skip
            go_wp2_with (first | (at_builtin; refine wpList_append_own_at _ rfl _ _ 22 rfl w1.heap.size 45 i0 _ 3 40 Tryd.underlying22 hi hz0 hz1 hz2 rfl (by decide) (o) (E.length) (rowOf (E)) rfl ?owE ⟨wr.heap.size + 1, 0, none⟩ 1 1 [.slice pa f.path.length pc, .int .i64 f.len, .bool f.pad] rfl rfl ?hnE ?h1E ?h63E ?hbyE ?hbaE ?_))
            case owE => exact own_len ((HOA.out).new ((Mod.refl _ _).alloc _)) rfl
            try case hnE => have := three_new (wr.alloc (.cells #[.slice pa f.path.length pc, .int .i64 f.len, .bool f.pad] 45)) (.slice pa f.path.length pc) (.int .i64 f.len) (.bool f.pad) 45; simpa using this
            case h1E => first | exact ⟨rfl, rfl, rfl⟩ | (intro u hu; simp at hu; rcases hu with rfl | rfl | rfl <;> rfl)
            case h63E => unfold maxLen; omega
            case hbyE => omega
            case hbaE => have := HNA.out.size; simp; omega
            intro o4 w4 r4 g4 _ l4
            have HO4 := hid (own_next ((HOA.out).new ((Mod.refl _ _).alloc _)) rfl ⟨pa, pc, f⟩ rfl r4 g4 (by simpa using l4) ((HS1.out.new HNA.out).new ((Mod.refl _ _).alloc _)) HLEN.out (old_far HS1.out (by have := HNA.out.size; simp; omega) (fun k hk => (HOA.out.row.lt k hk).1)))
            have HN4 : Hid (New w1 w4) := hid (New.grown ((HNA.out).trans ((Mod.refl _ _).alloc _)) g4 (fun j hj => (HOA.out.row.lt j hj).1))
            obtain ⟨x0, x1, x2, -, x4⟩ := Blk.file (f := f) (pa := pa) (pc := pc) (((Blk.new wr #[.slice pa f.path.length pc, .int .i64 f.len, .bool f.pad] 45).alloc (.cells #[.slice pa f.path.length pc, .int .i64 f.len, .bool f.pad] 45)).of_heap (g4.block wr.heap.size (by have := Blk.lt (Blk.new wr #[.slice pa f.path.length pc, .int .i64 f.len, .bool f.pad] 45); simp at this ⊢; omega) (fun q => ((fun (k : Nat) (hk : o.ownBlock = some k) (e : k = wr.heap.size) => absurd (HO.out.lt k hk) (by omega))) wr.heap.size q.symm rfl)))
            clear r4 g4 l4
            go_wp2
            refine ⟨⟨k + 1, _, _, x + f.len, by simp, rfl, rfl, by omega, by omega, by omega, ?_, ?_, HO4.out, HN4.out⟩, by simp [intOf]; omega⟩
            · simp; omega
            · rw [← HE.out, HDK.out, padded, if_neg (by exact HPO.out)]
              simp
        · clear hpos
          go_wp2_with (first | (at_builtin; refine wpList_append_own_at _ rfl _ _ 22 rfl w1.heap.size 45 i0 _ 3 40 Tryd.underlying22 hi hz0 hz1 hz2 rfl (by decide) (o) (E.length) (rowOf (E)) rfl ?owD ⟨wr.heap.size + 1, 0, none⟩ 1 1 [.slice pa f.path.length pc, .int .i64 f.len, .bool f.pad] rfl rfl ?hnD ?h1D ?h63D ?hbyD ?hbaD ?_))
          case owD => exact own_len ((HOA.out).new ((Mod.refl _ _).alloc _)) rfl
          try case hnD => have := three_new (wr.alloc (.cells #[.slice pa f.path.length pc, .int .i64 f.len, .bool f.pad] 45)) (.slice pa f.path.length pc) (.int .i64 f.len) (.bool f.pad) 45; simpa using this
          case h1D => first | exact ⟨rfl, rfl, rfl⟩ | (intro u hu; simp at hu; rcases hu with rfl | rfl | rfl <;> rfl)
          case h63D => unfold maxLen; omega
          case hbyD => omega
          case hbaD => have := HNA.out.size; simp; omega
          intro o4 w4 r4 g4 _ l4
          have HO4 := hid (own_next ((HOA.out).new ((Mod.refl _ _).alloc _)) rfl ⟨pa, pc, f⟩ rfl r4 g4 (by simpa using l4) ((HS1.out.new HNA.out).new ((Mod.refl _ _).alloc _)) HLEN.out (old_far HS1.out (by have := HNA.out.size; simp; omega) (fun k hk => (HOA.out.row.lt k hk).1)))
          have HN4 : Hid (New w1 w4) := hid (New.grown ((HNA.out).trans ((Mod.refl _ _).alloc _)) g4 (fun j hj => (HOA.out.row.lt j hj).1))
          obtain ⟨x0, x1, x2, -, x4⟩ := Blk.file (f := f) (pa := pa) (pc := pc) (((Blk.new wr #[.slice pa f.path.length pc, .int .i64 f.len, .bool f.pad] 45).alloc (.cells #[.slice pa f.path.length pc, .int .i64 f.len, .bool f.pad] 45)).of_heap (g4.block wr.heap.size (by have := Blk.lt (Blk.new wr #[.slice pa f.path.length pc, .int .i64 f.len, .bool f.pad] 45); simp at this ⊢; omega) (fun q => ((fun (k : Nat) (hk : o.ownBlock = some k) (e : k = wr.heap.size) => absurd (HO.out.lt k hk) (by omega))) wr.heap.size q.symm rfl)))
          clear r4 g4 l4
          go_wp2
          refine ⟨⟨k + 1, _, _, x + f.len, by simp, rfl, rfl, by omega, by omega, by omega, ?_, ?_, HO4.out, HN4.out⟩, by simp [intOf]; omega⟩
          · simp; omega
          · rw [← HE.out, HDK.out, padded, if_neg (by exact HPO.out)]
            simp
    · have hkl : bl.drop k = [] := List.drop_of_length_le (by omega)
      rw [hkl] at HE
      clear hkl hn
      go_wp2
      go_ret
      exact ⟨_, E, rfl, by have := HE.out; simpa [padded] using this, HO.out.base N1.out.size, N1.out.trans HN.out⟩
end Go.Proofs.YtnccfikimmolgaaDoor
