/-
  Several texts in one, in their build order. The walks of bare (of a list without pads) and aligned. Conditions as told.
-/
import Derived.Test.YtnccfikimmolgaaGreatDoorM17
namespace Go.Proofs.YtnccfikimmolgaaGreatDoor
set_option linter.unusedSimpArgs false
set_option linter.unusedVariables false
open Go.RowKit

theorem mask_pow (x : Int) (j : Nat) (hj : j ≤ 10) : bits BinOp.and IntKind.i64 x (((2 ^ j : Nat) : Int) - 1) = x % ((2 ^ j : Nat) : Int) := by
  have hp : 2 ^ j ≤ 1024 := Nat.pow_le_pow_right (by omega) hj
  have hp0 : 0 < 2 ^ j := Nat.two_pow_pos j
  have hd : ((2 ^ j : Nat) : Int) ∣ 18446744073709551616 := by
    have : (2 ^ j : Nat) ∣ 2 ^ 64 := Nat.pow_dvd_pow 2 (by omega)
    have e : (18446744073709551616 : Int) = ((2 ^ 64 : Nat) : Int) := by decide
    rw [e]
    exact Int.natCast_dvd_natCast.2 this
  have h1 : (BitVec.ofInt 64 (((2 ^ j : Nat) : Int) - 1)).toNat = 2 ^ j - 1 := by
    rw [BitVec.toNat_ofInt]
    have : ((((2 ^ j : Nat) : Int) - 1) % ((2 ^ 64 : Nat) : Int)) = ((2 ^ j : Nat) : Int) - 1 := Int.emod_eq_of_lt (by omega) (by
      have : (((2 : Nat) ^ 64 : Nat) : Int) = 18446744073709551616 := by decide
      omega)
    omega
  have h2 : (BitVec.ofInt 64 x &&& BitVec.ofInt 64 (((2 ^ j : Nat) : Int) - 1)).toNat = (x % 18446744073709551616).toNat % 2 ^ j := by
    rw [BitVec.toNat_and, h1, Nat.and_two_pow_sub_one_eq_mod, BitVec.toNat_ofInt]
    rfl
  have h3 : (((x % 18446744073709551616).toNat % 2 ^ j : Nat) : Int) = x % ((2 ^ j : Nat) : Int) := by
    rw [Int.natCast_emod, Int.toNat_of_nonneg (Int.emod_nonneg _ (by decide)), Int.emod_emod_of_dvd _ hd]
  show IntKind.i64.wrap (((BitVec.ofInt 64 x &&& BitVec.ofInt 64 (((2 ^ j : Nat) : Int) - 1)).toNat : Nat) : Int) = _
  rw [h2, h3]
  have q0 := Int.emod_nonneg x (show ((2 ^ j : Nat) : Int) ≠ 0 by omega)
  have q1 := Int.emod_lt_of_pos x (show 0 < ((2 ^ j : Nat) : Int) by omega)
  exact IntWalk.i64_in _ (by omega)
theorem lack_is {piece : Int} (h : pieceOf piece = true) (row : Int) : bits BinOp.and IntKind.i64 (-row) (piece - 1) = (-row) % piece := by
  simp only [pieceOf, decide_eq_true_eq] at h
  rcases h with rfl | rfl | rfl | rfl | rfl | rfl | rfl
  · exact mask_pow _ 4 (by omega)
  · exact mask_pow _ 5 (by omega)
  · exact mask_pow _ 6 (by omega)
  · exact mask_pow _ 7 (by omega)
  · exact mask_pow _ 8 (by omega)
  · exact mask_pow _ 9 (by omega)
  · exact mask_pow _ 10 (by omega)

theorem isPad_any (pa : Option Addr) (pc : Nat) (f : FileV) (w : World) :
    Calls Tryz.prog 108 #[fileV pa pc f] w fun e w' => e = .returned (.bool f.pad) ∧ New w w' := by
  go_enter Tryz.func108, Tryz.ntmps108
  go_wp2
  go_ret
  exact ⟨rfl, (Mod.refl _ _).alloc _⟩
set_option maxRecDepth 100000 in
set_option maxHeartbeats 1000000 in
theorem padIndex_none (a : Option Addr) (c : Nat) (l : List FileV) (w : World) (h : FilesAt w a c l) (hp : ∀ f ∈ l, f.pad = false) :
    Calls Tryz.prog 38 #[.slice a l.length c, .func (.func 108) #[] #[]] w fun e w' => e = .returned (.int .i64 (-1)) ∧ New w w' := by
  have hm1 := h.room; have hm2 := h.cap
  unfold maxLen at hm2
  by_cases hz : 0 < l.length
  · obtain ⟨b1, o1, rfl, hb1, hc1⟩ := h.get hz
    have HC1 := hid hc1
    have HPP := hid hp
    clear h hc1 hp
    go_enter Tryz.func38, Tryz.ntmps38
    go_wp2
    go_loopw [8] (fun i wr => ∃ k : Nat, i = .int .i64 k ∧ k ≤ l.length ∧ New w wr) (fun i _ => l.length - (intOf i).toNat)
    case atStart => exact ⟨0, rfl, by omega, Mod.refl _ _⟩
    case round =>
      obtain ⟨k, rfl, hk, hn⟩ := hrel
      have HN := hid hn
      by_cases hlt : k < l.length
      · obtain ⟨pa, pc, g0, g1, g2, -, -⟩ := (HC1.out k hlt).new hn
        clear hn
        have hpf := HPP.out _ (List.getElem_mem hlt)
        obtain ⟨f, hf⟩ : ∃ f, f = l[k] := ⟨_, rfl⟩
        rw [← hf] at g0 g1 g2 hpf
        clear hf
        have HI := hid (fun w => hpf ▸ isPad_any pa pc f w)
        have HI2 : Hid (∀ w, Calls Tryz.prog 108 #[fileV pa pc f] w fun e w' => e = .returned (.bool false) ∧ New w w') := hid (fun w => by have := isPad_any pa pc f w; rw [hpf] at this; exact this)
        clear HI hpf
        go_wp2_with (go_at_call 108; refine (HI2.out _).mono ?_; rintro e w1 ⟨rfl, n1⟩; have N1 := hid n1; clear n1)
        exact ⟨⟨k + 1, by simp, by omega, HN.out.trans N1.out⟩, by simp [intOf]; omega⟩
      · clear hn
        go_wp2
        go_ret
        exact ⟨rfl, HN.out⟩
  · obtain rfl : l = [] := List.eq_nil_of_length_eq_zero (by omega)
    clear h hp
    go_enter Tryz.func38, Tryz.ntmps38
    go_wp2
    refine wp_loop_rounds 1 ?_
    rw [rounds_succ]
    go_wp2
    go_ret
    exact ⟨rfl, Mod.refl _ _⟩
set_option maxRecDepth 100000 in
set_option maxHeartbeats 1000000 in
theorem delete_none (a : Option Addr) (c : Nat) (l : List FileV) (w : World) (h : FilesAt w a c l) (hp : ∀ f ∈ l, f.pad = false) :
    Calls Tryz.prog 106 #[.slice a l.length c, .func (.func 108) #[] #[]] w fun e w' => e = .returned (.slice a l.length c) ∧ New w w' := by
  have HI := hid (padIndex_none a c l w h hp)
  clear h hp
  go_enter Tryz.func106, Tryz.ntmps106
  go_wp2_with (go_at_call 38; refine HI.out.mono ?_; rintro e w1 ⟨rfl, n1⟩; have N1 := hid n1; clear n1)
  go_ret
  exact ⟨rfl, N1.out⟩
set_option maxRecDepth 100000 in
set_option maxHeartbeats 1000000 in
/-- bare, where there are no pads. -/
theorem bare_none (a : Option Addr) (c : Nat) (l : List FileV) (w : World) (h : FilesAt w a c l) (hl : l.length ≤ 40) (h8 : ∀ f ∈ l, f.path.length ≤ 8) (hp : ∀ f ∈ l, f.pad = false) :
    Calls Tryz.prog 78 #[.slice a l.length c] w fun e w' => ∃ v E, e = .returned v ∧ E.map (·.f) = l ∧ Own w' w.heap.size v E ∧ New w w' := by
  have HC := hid (copied_any a c l w h hl h8)
  have HD := hid (fun a c (W : World) (h : FilesAt W a c l) => delete_none a c l W h hp)
  clear h hl h8 hp
  go_enter Tryz.func78, Tryz.ntmps78
  go_wp2_with (first | (go_at_call 107; refine HC.out.mono ?_; rintro e w1 ⟨v, E, rfl, hE, hO, n1⟩; have HO := hid hO; have HE := hid hE; have N1 := hid n1; obtain ⟨a', c', rfl, hfa⟩ := hO.files; rw [hE] at hfa; have HFA := hid hfa; have hel : E.length = l.length := (by have := congrArg List.length hE; simpa using this); rw [hel]; rw [hel] at HO; clear hE n1 hfa hO hel) | (go_at_call 106; refine (HD.out _ _ _ HFA.out).mono ?_; rintro e w2 ⟨rfl, n2⟩; have N2 := hid n2; clear n2))
  go_ret
  exact ⟨_, E, rfl, HE.out, HO.out.new N2.out, N1.out.trans N2.out⟩

/-- The pads that make a list aligned. -/
def lackOf (row piece : Int) : Int := (-row) % piece
def padded (piece : Int) : Int → List FileV → List FileV
  | _, [] => []
  | row, f :: r => if 0 < f.len ∧ 0 < lackOf row piece then ⟨padPath (lackOf row piece), lackOf row piece, true⟩ :: f :: padded piece (row + lackOf row piece + f.len) r else f :: padded piece (row + f.len) r
theorem padded_pos {piece x : Int} {f : FileV} {r : List FileV} (h : 0 < f.len ∧ 0 < (-x) % piece) : padded piece x (f :: r) = ⟨padPath ((-x) % piece), (-x) % piece, true⟩ :: f :: padded piece (x + (-x) % piece + f.len) r := by
  rw [padded]
  exact if_pos h

theorem strs_two (w : World) (n : Int) (hs : (itoaB n).size ≤ 21) : StrsAt (w.alloc (.cells #[.string ⟨#[46, 112, 97, 100]⟩, .string (itoaB n)] 9)) (some ⟨w.heap.size, 0, none⟩) 2 (padPath n) := strs_pad w n hs
theorem own_len {w : World} {base : Nat} {v : Value} {E : List EntV} {n : Nat} (h : Own w base v E) (hn : E.length = n) : w.ownsRow base 51 3 v n (rowOf E) := hn ▸ h.row
theorem own_next {w w' : World} {base : Nat} {v v' : Value} {E : List EntV} {n : Nat} (h : Own w base v E) (hn : E.length = n) (e : EntV) {cs : List Value} (hc : cs = e.cells) (hr : w'.ownsRow base 51 3 v' (n + 1) (rowOf E ++ cs)) (hg : w.grownBy w' v.ownBlock)
    (hl : v'.ownBlock = v.ownBlock ∨ v'.ownBlock = some w.heap.size) (hs : StrsAt w e.pa e.pc e.f.path) (hb : -9223372036854775808 ≤ e.f.len ∧ e.f.len ≤ 9223372036854775807) (hf : e.f.path = [] ∨ ∃ a, e.pa = some a ∧ some a.block ≠ v.ownBlock ∧ a.block < w.heap.size) : Own w' base v' (E ++ [e]) := by
  subst hn hc
  exact h.add hr hg hl hs hb hf
/-- A path of the bare list lies ahead of what the loop makes. -/
theorem old_far {w1 W : World} {pa : Option Addr} {pc : Nat} {p : List ByteArray} {v : Value} (hs : StrsAt w1 pa pc p) (hw : w1.heap.size ≤ W.heap.size) (hv : ∀ k, v.ownBlock = some k → w1.heap.size ≤ k) : p = [] ∨ ∃ a, pa = some a ∧ some a.block ≠ v.ownBlock ∧ a.block < W.heap.size := by
  rcases hs.at' with h | ⟨b, o, e, hb, -⟩
  · exact .inl h
  · refine .inr ⟨_, e, fun q => ?_, Nat.lt_of_lt_of_le hb hw⟩
    have := hv b q.symm
    omega
set_option maxRecDepth 100000 in
set_option maxHeartbeats 4000000 in
theorem aligned_go (a : Option Addr) (c : Nat) (l bl : List FileV) (piece : Int) (w : World) (hlen : bl.length ≤ 40) (hf : ∀ f ∈ bl, 0 ≤ f.len ∧ f.len ≤ 65536) (hp : pieceOf piece = true) (ht : Tab w)
    (hb : Calls Tryz.prog 78 #[.slice a l.length c] w fun e w' => ∃ v E, e = .returned v ∧ E.map (·.f) = bl ∧ Own w' w.heap.size v E ∧ New w w') :
    Calls Tryz.prog 58 #[.slice a l.length c, .int .i64 piece] w fun e w' => ∃ v E, e = .returned v ∧ E.map (·.f) = padded piece 0 bl ∧ Own w' w.heap.size v E ∧ New w w' := by
  obtain ⟨p1, p2⟩ := piece_range hp
  have HPC := hid hp
  have HB := hid hb
  have HF := hid hf
  have HT := hid ht
  obtain ⟨i0, hi, hz0, hz1, hz2⟩ := info_parts info_file
  clear hp hb hf ht
  go_enter Tryz.func58, Tryz.ntmps58
  go_wp2_with (go_at_call 78; refine HB.out.mono ?_; rintro e w1 ⟨v, E0, rfl, hE, hO, n1⟩; have HO0 := hid hO; have HE0 := hid hE; have N1 := hid n1; obtain ⟨a', c', rfl, hfa⟩ := hO.files; rw [hE] at hfa; have HFA := hid hfa; have hel : E0.length = bl.length := (by have := congrArg List.length hE; simpa using this); have hro := hfa.room; have hca := hfa.cap; rw [hel]; clear hE n1 hfa hO hel)
  unfold maxLen at hca
  go_loopw [13, 5, 6] (fun i out row wr => ∃ (k : Nat) (E : List EntV) (o : Value) (x : Int), i = .int .i64 k ∧ o = out ∧ row = .int .i64 x ∧ k ≤ bl.length ∧ 0 ≤ x ∧ x ≤ 70000 * k ∧ E.length ≤ 2 * k ∧ E.map (·.f) ++ padded piece x (bl.drop k) = padded piece 0 bl ∧ Own wr w1.heap.size o E ∧ New w1 wr) (fun i _ _ _ => bl.length - (intOf i).toNat)
  case atStart => exact ⟨0, [], _, 0, rfl, rfl, rfl, by omega, by omega, by omega, by simp, by simp, Own.nil _ _, Mod.refl _ _⟩
  case round =>
    obtain ⟨k, E, o, x, rfl, rfl, rfl, hk, hx0, hx1, hel, hE, hO, hn⟩ := hrel
    have HN := hid hn
    have HE := hid hE
    have HO := hid hO
    have hsz := hn.size
    clear hE hO
    by_cases hlt : k < bl.length
    · obtain ⟨b1, o1, rfl, hb1, hc1⟩ := HFA.out.get (by omega)
      have hfa1 := hc1 k hlt
      clear hc1
      have HDK := hid (show bl.drop k = bl[k] :: bl.drop (k + 1) from List.drop_eq_getElem_cons hlt)
      have hff := HF.out _ (List.getElem_mem hlt)
      obtain ⟨f, hf⟩ : ∃ f, f = bl[k] := ⟨_, rfl⟩
      rw [← hf] at hfa1 HDK hff
      clear hf
      obtain ⟨pa, pc, z0, z1, z2, hst, hlenf⟩ := hfa1
      have g0 := hn.cellv z0
      have g1 := hn.cellv z1
      have g2 := hn.cellv z2
      clear z0 z1 z2 hn
      have HS1 := hid hst
      have HLEN := hid hlenf
      obtain ⟨f0, f1⟩ := hff
      clear hst hlenf
      have hlk := lack_is HPC.out x
      have hl0 : 0 ≤ (-x) % piece := Int.emod_nonneg _ (by omega)
      have hl1 : (-x) % piece < piece := Int.emod_lt_of_pos _ (by omega)
      by_cases hpos : 0 < f.len ∧ 0 < (-x) % piece
      · have HPO := hid hpos
        obtain ⟨t1, t2⟩ := hpos
        have HIT := hid (fun W (n : New wr W) => itoa_any ((-x) % piece) (by omega) (by omega) W (HT.out.new (N1.out.trans (HN.out.trans n))))
        have HSZ := hid (itoa_size (n := (-x) % piece) (by omega) (by omega))
        go_wp2_with (first | (go_at_call 52; refine (HIT.out _ ?_).mono ?_; (focus (exact ((Mod.refl _ _).alloc _))); rintro e w2 ⟨rfl, n2⟩; have N2 := hid n2; have NB2 : Hid (New wr w2) := hid (((Mod.refl _ _).alloc _).trans n2); have BX := hid (n2.blk (Blk.new wr #[.slice pa f.path.length pc, .int .i64 f.len, .bool f.pad] 51)); clear n2) | (at_builtin; refine wpList_append_own_at _ rfl _ _ 22 rfl w1.heap.size 51 i0 _ 3 40 Tryz.underlying22 hi hz0 hz1 hz2 rfl (by decide) (o) (E.length) (rowOf (E)) rfl ?owA ⟨w2.heap.size + 1, 0, none⟩ 1 1 [.slice (some ⟨w2.heap.size, 0, none⟩) 2 2, .int .i64 ((-x) % piece), .bool true] rfl rfl ?hnA ?h1A ?h63A ?hbyA ?hbaA ?_))
        case owA => exact own_len (HO.out.new (NB2.out.trans (((Mod.refl _ _).alloc _).alloc _))) rfl
        case hnA => have := three_new (w2.alloc (.cells #[.string ⟨#[46, 112, 97, 100]⟩, .string (itoaB ((-x) % piece))] 9)) (.slice (some ⟨w2.heap.size, 0, none⟩) 2 2) (.int .i64 ((-x) % piece)) (.bool true) 51; simpa using this
        case h1A => first | exact ⟨rfl, rfl, rfl⟩ | (intro u hu; simp at hu; rcases hu with rfl | rfl | rfl <;> rfl)
        case h63A => unfold maxLen; omega
        case hbyA => omega
        case hbaA => have := NB2.out.size; simp; omega
        intro o3 w3 r3 g3 _ l3
        have hsz2 := NB2.out.size
        have HO3 := hid (own_next (HO.out.new (NB2.out.trans (((Mod.refl _ _).alloc _).alloc _))) rfl ⟨some ⟨w2.heap.size, 0, none⟩, 2, ⟨padPath ((-x) % piece), (-x) % piece, true⟩⟩ rfl r3 g3 (by simpa using l3) ((strs_two w2 _ HSZ.out).alloc _) ⟨by show -9223372036854775808 ≤ (-x) % piece; omega, by show (-x) % piece ≤ 9223372036854775807; omega⟩ (.inr ⟨_, rfl, fun q => by have := HO.out.lt _ q.symm; simp at this; omega, by simp; omega⟩))
        have HN3 : Hid (New w1 w3) := hid (New.grown ((HN.out.trans NB2.out).trans (((Mod.refl _ _).alloc _).alloc _)) g3 (fun j hj => (HO.out.row.lt j hj).1))
        have HNE3 : Hid (∀ k, o3.ownBlock = some k → k ≠ wr.heap.size) := hid (fun k hk e => by
          rcases l3 with l3 | l3
          · rw [l3] at hk; have := HO.out.lt k hk; omega
          · rw [l3] at hk; simp at hk; omega)
        have BX3 := hid (((BX.out.alloc (.cells #[.string ⟨#[46, 112, 97, 100]⟩, .string (itoaB ((-x) % piece))] 9)).alloc (.cells #[.slice (some ⟨w2.heap.size, 0, none⟩) 2 2, .int .i64 ((-x) % piece), .bool true] 51)).of_heap (g3.block wr.heap.size (by simp; omega) (fun q => by have := HO.out.lt _ q.symm; omega)))
        obtain ⟨v0, v1, v2, -, v4⟩ := Blk.file (f := f) (pa := pa) (pc := pc) BX3.out
        have HEL3 := hid (show (E ++ [(⟨some ⟨w2.heap.size, 0, none⟩, 2, ⟨padPath ((-x) % piece), (-x) % piece, true⟩⟩ : EntV)]).length = E.length + 1 by simp)
        have hsz3 := HN3.out.size
        clear r3 g3 l3
        go_wp2_with (first | (at_builtin; refine wpList_append_own_at _ rfl _ _ 22 rfl w1.heap.size 51 i0 _ 3 40 Tryz.underlying22 hi hz0 hz1 hz2 rfl (by decide) (o3) (E.length + 1) (rowOf ((E ++ [(⟨some ⟨w2.heap.size, 0, none⟩, 2, ⟨padPath ((-x) % piece), (-x) % piece, true⟩⟩ : EntV)]))) rfl ?owB ⟨w3.heap.size, 0, none⟩ 1 1 [.slice pa f.path.length pc, .int .i64 f.len, .bool f.pad] rfl rfl ?hnB ?h1B ?h63B ?hbyB ?hbaB ?_))
        case owB => exact own_len ((HO3.out).new ((Mod.refl _ _).alloc _)) HEL3.out
        try case hnB => have := three_new (w3) (.slice pa f.path.length pc) (.int .i64 f.len) (.bool f.pad) 51; simpa using this
        case h1B => first | exact ⟨rfl, rfl, rfl⟩ | (intro u hu; simp at hu; rcases hu with rfl | rfl | rfl <;> rfl)
        case h63B => unfold maxLen; omega
        case hbyB => omega
        case hbaB => have := HN3.out.size; simp; omega
        intro o4 w4 r4 g4 _ l4
        have HO4 := hid (own_next ((HO3.out).new ((Mod.refl _ _).alloc _)) HEL3.out ⟨pa, pc, f⟩ rfl r4 g4 (by simpa using l4) ((HS1.out.new HN3.out).new ((Mod.refl _ _).alloc _)) HLEN.out (old_far HS1.out (by have := HN3.out.size; simp; omega) (fun k hk => (HO3.out.row.lt k hk).1)))
        have HN4 : Hid (New w1 w4) := hid (New.grown ((HN3.out).trans ((Mod.refl _ _).alloc _)) g4 (fun j hj => (HO3.out.row.lt j hj).1))
        obtain ⟨x0, x1, x2, -, x4⟩ := Blk.file (f := f) (pa := pa) (pc := pc) (((BX3.out).alloc (.cells #[.slice pa f.path.length pc, .int .i64 f.len, .bool f.pad] 51)).of_heap (g4.block wr.heap.size (by have := Blk.lt (BX3.out); simp at this ⊢; omega) (fun q => (HNE3.out) wr.heap.size q.symm rfl)))
        clear r4 g4 l4
        go_wp2
        refine ⟨⟨k + 1, _, _, x + (-x) % piece + f.len, by simp, rfl, rfl, by omega, by omega, by omega, ?_, ?_, HO4.out, HN4.out⟩, by simp [intOf]; omega⟩
        · simp; omega
        · rw [← HE.out, HDK.out, padded_pos HPO.out]
          simp
      · have HPO := hid hpos
        have HNA := hid (HN.out.alloc (.cells #[.slice pa f.path.length pc, .int .i64 f.len, .bool f.pad] 51))
        have HOA := hid (HO.out.new ((Mod.refl _ _).alloc (.cells #[.slice pa f.path.length pc, .int .i64 f.len, .bool f.pad] 51)))
        by_cases t1 : 0 < f.len
        · have t2 : ¬ 0 < (-x) % piece := fun q => hpos ⟨t1, q⟩
          clear hpos
          go_wp2_with (first | (at_builtin; refine wpList_append_own_at _ rfl _ _ 22 rfl w1.heap.size 51 i0 _ 3 40 Tryz.underlying22 hi hz0 hz1 hz2 rfl (by decide) (o) (E.length) (rowOf (E)) rfl ?owC ⟨wr.heap.size + 1, 0, none⟩ 1 1 [.slice pa f.path.length pc, .int .i64 f.len, .bool f.pad] rfl rfl ?hnC ?h1C ?h63C ?hbyC ?hbaC ?_))
          case owC => exact own_len ((HOA.out).new ((Mod.refl _ _).alloc _)) rfl
          try case hnC => have := three_new (wr.alloc (.cells #[.slice pa f.path.length pc, .int .i64 f.len, .bool f.pad] 51)) (.slice pa f.path.length pc) (.int .i64 f.len) (.bool f.pad) 51; simpa using this
          case h1C => first | exact ⟨rfl, rfl, rfl⟩ | (intro u hu; simp at hu; rcases hu with rfl | rfl | rfl <;> rfl)
          case h63C => unfold maxLen; omega
          case hbyC => omega
          case hbaC => have := HNA.out.size; simp; omega
          intro o4 w4 r4 g4 _ l4
          have HO4 := hid (own_next ((HOA.out).new ((Mod.refl _ _).alloc _)) rfl ⟨pa, pc, f⟩ rfl r4 g4 (by simpa using l4) ((HS1.out.new HNA.out).new ((Mod.refl _ _).alloc _)) HLEN.out (old_far HS1.out (by have := HNA.out.size; simp; omega) (fun k hk => (HOA.out.row.lt k hk).1)))
          have HN4 : Hid (New w1 w4) := hid (New.grown ((HNA.out).trans ((Mod.refl _ _).alloc _)) g4 (fun j hj => (HOA.out.row.lt j hj).1))
          obtain ⟨x0, x1, x2, -, x4⟩ := Blk.file (f := f) (pa := pa) (pc := pc) (((Blk.new wr #[.slice pa f.path.length pc, .int .i64 f.len, .bool f.pad] 51).alloc (.cells #[.slice pa f.path.length pc, .int .i64 f.len, .bool f.pad] 51)).of_heap (g4.block wr.heap.size (by have := Blk.lt (Blk.new wr #[.slice pa f.path.length pc, .int .i64 f.len, .bool f.pad] 51); simp at this ⊢; omega) (fun q => ((fun (k : Nat) (hk : o.ownBlock = some k) (e : k = wr.heap.size) => absurd (HO.out.lt k hk) (by omega))) wr.heap.size q.symm rfl)))
          clear r4 g4 l4
          go_wp2
          refine ⟨⟨k + 1, _, _, x + f.len, by simp, rfl, rfl, by omega, by omega, by omega, ?_, ?_, HO4.out, HN4.out⟩, by simp [intOf]; omega⟩
          · simp; omega
          · rw [← HE.out, HDK.out, padded, if_neg (by exact HPO.out)]
            simp
        · clear hpos
          go_wp2_with (first | (at_builtin; refine wpList_append_own_at _ rfl _ _ 22 rfl w1.heap.size 51 i0 _ 3 40 Tryz.underlying22 hi hz0 hz1 hz2 rfl (by decide) (o) (E.length) (rowOf (E)) rfl ?owD ⟨wr.heap.size + 1, 0, none⟩ 1 1 [.slice pa f.path.length pc, .int .i64 f.len, .bool f.pad] rfl rfl ?hnD ?h1D ?h63D ?hbyD ?hbaD ?_))
          case owD => exact own_len ((HOA.out).new ((Mod.refl _ _).alloc _)) rfl
          try case hnD => have := three_new (wr.alloc (.cells #[.slice pa f.path.length pc, .int .i64 f.len, .bool f.pad] 51)) (.slice pa f.path.length pc) (.int .i64 f.len) (.bool f.pad) 51; simpa using this
          case h1D => first | exact ⟨rfl, rfl, rfl⟩ | (intro u hu; simp at hu; rcases hu with rfl | rfl | rfl <;> rfl)
          case h63D => unfold maxLen; omega
          case hbyD => omega
          case hbaD => have := HNA.out.size; simp; omega
          intro o4 w4 r4 g4 _ l4
          have HO4 := hid (own_next ((HOA.out).new ((Mod.refl _ _).alloc _)) rfl ⟨pa, pc, f⟩ rfl r4 g4 (by simpa using l4) ((HS1.out.new HNA.out).new ((Mod.refl _ _).alloc _)) HLEN.out (old_far HS1.out (by have := HNA.out.size; simp; omega) (fun k hk => (HOA.out.row.lt k hk).1)))
          have HN4 : Hid (New w1 w4) := hid (New.grown ((HNA.out).trans ((Mod.refl _ _).alloc _)) g4 (fun j hj => (HOA.out.row.lt j hj).1))
          obtain ⟨x0, x1, x2, -, x4⟩ := Blk.file (f := f) (pa := pa) (pc := pc) (((Blk.new wr #[.slice pa f.path.length pc, .int .i64 f.len, .bool f.pad] 51).alloc (.cells #[.slice pa f.path.length pc, .int .i64 f.len, .bool f.pad] 51)).of_heap (g4.block wr.heap.size (by have := Blk.lt (Blk.new wr #[.slice pa f.path.length pc, .int .i64 f.len, .bool f.pad] 51); simp at this ⊢; omega) (fun q => ((fun (k : Nat) (hk : o.ownBlock = some k) (e : k = wr.heap.size) => absurd (HO.out.lt k hk) (by omega))) wr.heap.size q.symm rfl)))
          clear r4 g4 l4
          go_wp2
          refine ⟨⟨k + 1, _, _, x + f.len, by simp, rfl, rfl, by omega, by omega, by omega, ?_, ?_, HO4.out, HN4.out⟩, by simp [intOf]; omega⟩
          · simp; omega
          · rw [← HE.out, HDK.out, padded, if_neg (by exact HPO.out)]
            simp
    · have hkl : bl.drop k = [] := List.drop_of_length_le (by omega)
      rw [hkl] at HE
      clear hkl hn
      go_wp2
      go_ret
      exact ⟨_, E, rfl, by have := HE.out; simpa [padded] using this, HO.out.base N1.out.size, N1.out.trans HN.out⟩
end Go.Proofs.YtnccfikimmolgaaGreatDoor
