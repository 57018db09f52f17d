/-
  Several texts in one, in their build order. The reference's reading of an address. Conditions: the text is small.
-/
import Derived.Test.YtbgmkplpolgebaaGreatDoorM29
import Derived.Test.YtbgmkplpolgebaaGreatDoorM33
import Derived.Test.YtbgmkplpolgebaaGreatDoorM34
import Derived.Test.YtbgmkplpolgebaaGreatDoorM8
namespace Go.Proofs.YtbgmkplpolgebaaGreatDoor
set_option linter.unusedSimpArgs false
set_option linter.unusedVariables false
open Go.RowKit Go.Shelf

theorem modGrown {S : Nat → Prop} {a b c : World} {row : Option Nat} (n : Mod S a b) (g : b.grownBy c row) (h : ∀ j, row = some j → S j ∨ a.heap.size ≤ j) : Mod S a c :=
  ⟨g.os.trans n.os, g.tape.trans n.tape, g.output.trans n.output, Nat.le_trans n.size g.size, fun k hk hx => (g.block k (Nat.lt_of_lt_of_le hk n.size) (fun q => by
    rcases h k q.symm with h | h
    · exact hx h
    · omega)).trans (n.block k hk hx)⟩
theorem OwnY.set {w : World} {base : Nat} {v : Value} {l : List UInt8} (h : OwnY w base v l) {b : Nat} (hb : b < base) (i : Nat) (u : Value) : OwnY (w.setCell ⟨b, i, none⟩ u) base v l := by
  have m : Mod (fun j => j = b) w (w.setCell ⟨b, i, none⟩ u) := (Mod.refl _ w).set _ _ (.inl rfl)
  have g : w.grownBy (w.setCell ⟨b, i, none⟩ u) (some b) := ⟨m.os, m.tape, m.output, m.size, fun k hk hne => m.block k hk (fun e => hne (by rw [e]))⟩
  unfold OwnY at h ⊢
  refine h.kept g (.inr (fun q => ?_))
  have := OwnY.block (l := l) h q
  omega
theorem six_none {s : List UInt8} (hd : s.head? = some 91) (h : (pieces [] 58 (s.drop 1)).length ≠ 9 ∨ ∃ k, k < 8 ∧ grp7 k ((pieces [] 58 (s.drop 1)).getD k []) = none) : aP s = none := by
  cases e : aP s with
  | none => rfl
  | some y =>
    obtain ⟨-, N, h1, h2, h3, -, -⟩ := aP_six e hd
    rcases h with h | ⟨k, hk, h⟩
    · exact absurd h2 h
    · rw [h3 k (by omega)] at h
      cases h
theorem six_all {s : List UInt8} (hd : s.head? = some 91) {N : List Nat} (hN : N.length = 8) (h : ∀ j (hj : j < N.length), grp7 j ((pieces [] 58 (s.drop 1)).getD j []) = some N[j]) {p : Int} (hp : digP 65535 ((pieces [] 58 (s.drop 1)).getD 8 []) = p) : aP s = if adrOk ⟨6, mkB (unpairs N), p⟩ = true ∧ atxt ⟨6, mkB (unpairs N), p⟩ = s then some ⟨6, mkB (unpairs N), p⟩ else none := by
  by_cases hc : adrOk ⟨6, mkB (unpairs N), p⟩ = true ∧ atxt ⟨6, mkB (unpairs N), p⟩ = s
  · rw [if_pos hc]
    exact aP_yes hc.1 hc.2
  · rw [if_neg hc]
    cases e : aP s with
    | none => rfl
    | some y =>
      obtain ⟨h0, N', h1, h2, h3, h4, h5⟩ := aP_six e hd
      have hNN : N' = N := by
        apply List.ext_getElem (by omega)
        intro i hi1 hi2
        have e1 := h3 i hi1
        rw [h i hi2] at e1
        injection e1 with e1
        exact e1.symm
      have hy : y = ⟨6, mkB (unpairs N), p⟩ := by
        obtain ⟨fam, ip, port⟩ := y
        simp only at h0 h4 h5
        rw [h0, h5, hNN, ← h4, hp]
      rw [hy] at e
      exact absurd (aP_text e) hc
theorem four_none {s : List UInt8} (hd : s.head? ≠ some 91) (h : (pieces [] 58 s).length ≠ 2 ∨ (pieces [] 46 ((pieces [] 58 s).getD 0 [])).length ≠ 4 ∨ ∃ k, k < 4 ∧ digP 255 ((pieces [] 46 ((pieces [] 58 s).getD 0 [])).getD k []) < 0) : aP s = none := by
  cases e : aP s with
  | none => rfl
  | some y =>
    obtain ⟨-, N, h1, h2, h3, h4, -⟩ := aP_four e hd
    rcases h with h | h | ⟨k, hk, h⟩
    · exact absurd h2 h
    · exact absurd h3 h
    · rw [h4 k (by omega)] at h
      omega
theorem four_all {s : List UInt8} (hd : s.head? ≠ some 91) {N : List UInt8} (hN : N.length = 4) (h : ∀ j (hj : j < N.length), digP 255 ((pieces [] 46 ((pieces [] 58 s).getD 0 [])).getD j []) = (N[j].toNat : Int)) {p : Int} (hp : digP 65535 ((pieces [] 58 s).getD 1 []) = p) : aP s = if adrOk ⟨4, mkB N, p⟩ = true ∧ atxt ⟨4, mkB N, p⟩ = s then some ⟨4, mkB N, p⟩ else none := by
  by_cases hc : adrOk ⟨4, mkB N, p⟩ = true ∧ atxt ⟨4, mkB N, p⟩ = s
  · rw [if_pos hc]
    exact aP_yes hc.1 hc.2
  · rw [if_neg hc]
    cases e : aP s with
    | none => rfl
    | some y =>
      obtain ⟨h0, N', h1, h2, h3, h4, h5, h6⟩ := aP_four e hd
      have hNN : N' = N := by
        apply List.ext_getElem (by omega)
        intro i hi1 hi2
        have e1 := h4 i hi1
        rw [h i hi2] at e1
        exact UInt8.toNat_inj.1 (by omega)
      have hy : y = ⟨4, mkB N, p⟩ := by
        obtain ⟨fam, ip, port⟩ := y
        simp only at h0 h5 h6
        rw [h0, h6, hNN, ← h5, hp]
      rw [hy] at e
      exact absurd (aP_text e) hc
theorem hexP_bad {p : List UInt8} (h : p = [] ∨ 4 < p.length) : hexP p = none := by unfold hexP; rw [if_pos h]
theorem hexP_ok {p : List UInt8} (h : ¬ (p = [] ∨ 4 < p.length)) : hexP p = nibG 0 p := by unfold hexP; rw [if_neg h]
theorem nibG_bad {p : List UInt8} {k v : Nat} (hk : k < p.length) (h : nibG 0 (p.take k) = some v) (hn : nib p[k] = none) : nibG 0 p = none := by
  conv => lhs; rw [← List.take_append_drop k p, List.drop_eq_getElem_cons hk]
  rw [nibG_app _ _ 0 _ h]
  simp only [nibG]
  rw [hn]
theorem nibG_next {p : List UInt8} {k v d : Nat} (hk : k < p.length) (h : nibG 0 (p.take k) = some v) (hn : nib p[k] = some d) : nibG 0 (p.take (k + 1)) = some (v * 16 + d) := by
  rw [List.take_succ_eq_append_getElem hk, nibG_app _ _ 0 _ h]
  simp only [nibG]
  rw [hn]
theorem rap_results (tmps : Array Value) (w : World) (p : Nat) (m0 m1 m2 x : Value) (hp : Blk w p #[m0, m1, m2] 64)
    (h2 : tmps.getD 2 undef = .pointer (some ⟨p, 0, none⟩)) (h3 : tmps.getD 3 undef = x) :
    (results Tryz.f87 tmps).run Tryz.prog w = .ok (.tuple #[.agg #[m0, m1, m2], x]) w := by
  have p0 := hp.cellv 0 rfl; have p1 := hp.cellv 1 rfl; have p2 := hp.cellv 2 rfl
  have h2' : tmps[2]?.getD undef = .pointer (some ⟨p, 0, none⟩) := by simpa using h2
  have h3' : tmps[3]?.getD undef = x := by simpa using h3
  simp [results, Tryz.results87, h2', h3', asAddr, go_sem, p0, p1, p2, Result.andThen]
def nibV : Option Nat → Int
  | some n => (n : Int)
  | none => -1
theorem nibI_V (c : UInt8) : nibI c = nibV (nib c) := by
  cases h : nib c with
  | none => rw [nibI_none h]; rfl
  | some n => rw [nibI_some h]; rfl
set_option maxRecDepth 100000 in
set_option maxHeartbeats 8000000 in
theorem rAParse_any (s : ByteArray) (w : World) (hs : s.size ≤ 65536) : Calls Tryz.prog 87 #[.string s] w fun e w' => e = adrE (aP s.data.toList) ∧ New w w' := by
  have hI : ¬ (65536 : Int) < (s.size : Int) := by omega
  have hlen : s.data.toList.length = s.size := by rw [Array.length_toList]; rfl
  obtain ⟨i0, hi, hz0, hz1, hz2⟩ := info_parts info_byte
  obtain ⟨X, hX⟩ : ∃ X, X = aP s.data.toList := ⟨_, rfl⟩
  rw [← hX]
  have HXX := hid hX
  clear hX
  by_cases h0 : s.size = 0
  · have hnil : s.data.toList = [] := List.eq_nil_of_length_eq_zero (by omega)
    have HX : Hid (X = none) := hid (by rw [HXX.out, hnil]; rfl)
    have hte : (s.toList == []) = true := by rw [beq_iff_eq, ByteArray.toList_eq]; exact hnil
    have htI : s.toList.isEmpty = true := by rw [ByteArray.toList_eq, hnil]; rfl
    have HSP := hid (fun W => rCutS_any s 58 W (by omega))
    rw [hnil] at HSP
    clear h0 hnil hlen
    go_enter Tryz.func87, Tryz.ntmps87
    go_wp2_with fail
    refine name_worldA (p := fun W => Calls _ _ _ W _) (fun W hW => ?_)
    have BAx : Blk W w.heap.size #[.int .i64 0, .string ⟨#[]⟩, .int .i64 0] 64 := by
      rw [hW]
      apply Blk.row
      · repeat (first | with_reducible exact hI | (with_reducible apply Blk.newAt; (simp; done)) | with_reducible apply Blk.alloc | with_reducible apply Blk.drew | with_reducible apply Blk.drewN | with_reducible apply Blk.set | (with_reducible apply Blk.other; · first | (simp; done) | (simp; omega) | omega) | (with_reducible apply Blk.putObj; · first | (simp; done) | (simp; omega) | omega))
      · rfl
    have BXx : Blk W (w.heap.size + 1) #[.int .i64 4, .string ⟨#[]⟩, .int .i64 0] 64 := by
      rw [hW]
      apply Blk.row
      · repeat (first | with_reducible exact hI | (with_reducible apply Blk.newAt; (simp; done)) | with_reducible apply Blk.alloc | with_reducible apply Blk.drew | with_reducible apply Blk.drewN | with_reducible apply Blk.set | (with_reducible apply Blk.other; · first | (simp; done) | (simp; omega) | omega) | (with_reducible apply Blk.putObj; · first | (simp; done) | (simp; omega) | omega))
      · rfl
    have BYx : Blk W (w.heap.size + 1 + 1) #[] 5 := by
      rw [hW]
      apply Blk.row
      · repeat (first | with_reducible exact hI | (with_reducible apply Blk.newAt; (simp; done)) | with_reducible apply Blk.alloc | with_reducible apply Blk.drew | with_reducible apply Blk.drewN | with_reducible apply Blk.set | (with_reducible apply Blk.other; · first | (simp; done) | (simp; omega) | omega) | (with_reducible apply Blk.putObj; · first | (simp; done) | (simp; omega) | omega))
      · rfl
    have NWx : New w W := by
      rw [hW]
      repeat (first | with_reducible exact Mod.refl _ w | with_reducible refine Mod.alloc ?_ _ | with_reducible refine Mod.drew ?_ | with_reducible refine Mod.drewN ?_ _ | (with_reducible refine Mod.set ?_ _ _ (by first | exact .inl rfl | (right; omega) | (right; simp; done) | (right; simp; omega) | (left; omega) | (left; simp; done) | (left; simp; omega))) | (with_reducible refine Mod.putObj ?_ _ _ (by first | exact .inl rfl | (right; omega) | (right; simp; done) | (right; simp; omega) | (left; omega) | (left; simp; done) | (left; simp; omega))))
    have BA := hid BAx; have BX := hid BXx; have BY := hid BYx; have NW := hid NWx
    clear hW BAx BXx BYx NWx
    refine (HSP.out _).mono ?_
    rintro e w1 ⟨pa, pd, rfl, hst, hbk, n1⟩
    have BA1 := hid (New.blk n1 BA.out)
    have N1 := hid (NW.out.trans n1)
    have hq : (((((pieces [] 58 []).map mkB).length : Nat) : Int) != 2) = true := by decide
    have hq2 : ((pieces [] 58 []).map mkB).length = 1 := rfl
    rw [hq2]
    clear hst hbk n1 hq
    have a0 := BA1.out.cellv 0 rfl; have a1 := BA1.out.cellv 1 rfl; have a2 := BA1.out.cellv 2 rfl; have al := BA1.out.lt; have af := BA1.out.frz
    go_wp2
    refine bodyPost_ret (v := .tuple #[.agg #[.int .i64 0, .string ⟨#[]⟩, .int .i64 0], .int .i64 2]) ?_ rfl ⟨by rw [HX.out]; rfl, ?_⟩
    · refine rap_results _ _ w.heap.size _ _ _ _ ?_ rfl rfl
      apply Blk.row
      · repeat (first | with_reducible exact BA1.out | (with_reducible apply Blk.newAt; (simp; done)) | with_reducible apply Blk.alloc | with_reducible apply Blk.drew | with_reducible apply Blk.drewN | with_reducible apply Blk.set | (with_reducible apply Blk.other; · first | (simp; done) | (simp; omega) | omega) | (with_reducible apply Blk.putObj; · first | (simp; done) | (simp; omega) | omega))
      · rfl
    · have q := N1.out
      repeat (first | with_reducible exact q | with_reducible refine Mod.alloc ?_ _ | with_reducible refine Mod.drew ?_ | with_reducible refine Mod.drewN ?_ _ | (with_reducible refine Mod.set ?_ _ _ (by first | exact .inl rfl | (right; omega) | (right; simp; done) | (right; simp; omega) | (left; omega) | (left; simp; done) | (left; simp; omega))) | (with_reducible refine Mod.putObj ?_ _ _ (by first | exact .inl rfl | (right; omega) | (right; simp; done) | (right; simp; omega) | (left; omega) | (left; simp; done) | (left; simp; omega))))
  · have hs0 : 0 < s.size := by omega
    have hsI : (0 : Int) < (s.size : Int) := by omega
    have hqn : s.data.toList ≠ [] := fun e => by
      have := congrArg List.length e
      rw [Array.length_toList] at this
      have h : s.size = 0 := this
      omega
    have hte : (s.toList == []) = false := by rw [beq_eq_false_iff_ne, ByteArray.toList_eq]; exact hqn
    have htI : s.toList.isEmpty = false := by
      rw [ByteArray.toList_eq]
      cases hq : s.data.toList with
      | nil => exact absurd hq hqn
      | cons a r => rfl
    have hhd := head_at s hs0
    have HH := hid (show s.data.toList.head? = some s[0] from hhd)
    clear hhd
    by_cases h91 : s[0] = 91
    · have HHD := hid (show s.data.toList.head? = some 91 by rw [HH.out, h91])
      have e91 : ((s[0].toNat : Int) == 91) = true := by rw [h91]; rfl
      have hdr : (s.extract 1 s.size).data.toList = s.data.toList.drop 1 := by
        rw [ext_list, List.take_of_length_le]
        rw [List.length_drop, hlen]
        exact Nat.le_refl _
      have hex : (s.extract 1 s.size).size ≤ s.size := by
        have : (s.extract 1 s.size).data.toList.length = (s.extract 1 s.size).size := by rw [Array.length_toList]; rfl
        rw [hdr, List.length_drop, hlen] at this
        omega
      have HSP := hid (fun W => rCutS_any (s.extract 1 s.size) 58 W (by omega))
      rw [hdr] at HSP
      have HPL := hid (fun x hx => piece_le [] (by simp) 58 (s.data.toList.drop 1) x hx)
      obtain ⟨P, hP⟩ : ∃ P, P = pieces [] 58 (s.data.toList.drop 1) := ⟨_, rfl⟩
      have HP := hid hP
      have HSZ : Hid (∀ j (h : j < P.length), (mkB P[j]).size ≤ 65537) := hid (fun j h => by
        subst hP
        have h1 := HPL.out _ (List.getElem_mem h)
        have h2 : (mkB (pieces [] 58 (s.data.toList.drop 1))[j]).size = ((pieces [] 58 (s.data.toList.drop 1))[j]).length := size_list _
        have h3 : (s.data.toList.drop 1).length = s.data.toList.length - 1 := List.length_drop ..
        omega)
      rw [← hP] at HSP
      have hmap : (P.map mkB).length = P.length := List.length_map _
      rw [hmap] at HSP
      have hP0 : 0 < P.length := by rw [hP]; exact List.length_pos_iff.2 (pieces_ne _ _ _)
      have hPle : P.length ≤ 65537 := by
        have h1 := pieces_len [] 58 (s.data.toList.drop 1)
        have h2 := List.count_le_length (l := s.data.toList.drop 1) (a := 58)
        rw [← hP] at h1
        rw [List.length_drop, hlen] at h2
        omega
      clear hP hdr hex h91 h0 hqn hlen HH
      go_enter Tryz.func87, Tryz.ntmps87
      go_wp2_with fail
      refine name_worldA (p := fun W => Calls _ _ _ W _) (fun W hW => ?_)
      have BAx : Blk W w.heap.size #[.int .i64 0, .string ⟨#[]⟩, .int .i64 0] 64 := by
        rw [hW]
        apply Blk.row
        · repeat (first | with_reducible exact hI | (with_reducible apply Blk.newAt; (simp; done)) | with_reducible apply Blk.alloc | with_reducible apply Blk.drew | with_reducible apply Blk.drewN | with_reducible apply Blk.set | (with_reducible apply Blk.other; · first | (simp; done) | (simp; omega) | omega) | (with_reducible apply Blk.putObj; · first | (simp; done) | (simp; omega) | omega))
        · rfl
      have BXx : Blk W (w.heap.size + 1) #[.int .i64 6, .string ⟨#[]⟩, .int .i64 0] 64 := by
        rw [hW]
        apply Blk.row
        · repeat (first | with_reducible exact hI | (with_reducible apply Blk.newAt; (simp; done)) | with_reducible apply Blk.alloc | with_reducible apply Blk.drew | with_reducible apply Blk.drewN | with_reducible apply Blk.set | (with_reducible apply Blk.other; · first | (simp; done) | (simp; omega) | omega) | (with_reducible apply Blk.putObj; · first | (simp; done) | (simp; omega) | omega))
        · rfl
      have BYx : Blk W (w.heap.size + 1 + 1) #[] 5 := by
        rw [hW]
        apply Blk.row
        · repeat (first | with_reducible exact hI | (with_reducible apply Blk.newAt; (simp; done)) | with_reducible apply Blk.alloc | with_reducible apply Blk.drew | with_reducible apply Blk.drewN | with_reducible apply Blk.set | (with_reducible apply Blk.other; · first | (simp; done) | (simp; omega) | omega) | (with_reducible apply Blk.putObj; · first | (simp; done) | (simp; omega) | omega))
        · rfl
      have NWx : New w W := by
        rw [hW]
        repeat (first | with_reducible exact Mod.refl _ w | with_reducible refine Mod.alloc ?_ _ | with_reducible refine Mod.drew ?_ | with_reducible refine Mod.drewN ?_ _ | (with_reducible refine Mod.set ?_ _ _ (by first | exact .inl rfl | (right; omega) | (right; simp; done) | (right; simp; omega) | (left; omega) | (left; simp; done) | (left; simp; omega))) | (with_reducible refine Mod.putObj ?_ _ _ (by first | exact .inl rfl | (right; omega) | (right; simp; done) | (right; simp; omega) | (left; omega) | (left; simp; done) | (left; simp; omega))))
      have BA := hid BAx; have BX := hid BXx; have BY := hid BYx; have NW := hid NWx
      clear hW BAx BXx BYx NWx
      refine (HSP.out _).mono ?_
      rintro e w1 ⟨pa, pd, rfl, hst, hbk, n1⟩
      have BA1 := hid (New.blk n1 BA.out)
      have BX1 := hid (New.blk n1 BX.out)
      have BY1 := hid (New.blk n1 BY.out)
      have N1 := hid (NW.out.trans n1)
      obtain ⟨bb, oo, hbe, hbb, hcc⟩ := hst.get (by rw [hmap]; omega)
      subst hbe
      have er := hst.room; have ec := hst.cap
      rw [hmap] at er
      unfold maxLen at ec
      have hb2 := (hbk _ rfl).1
      simp only at hb2
      have hBYl := BY.out.lt
      have HCC : Hid (∀ j (h : j < P.length) wr, Mod (fun j => j = w.heap.size + 1 + 1) w1 wr → wr.cell? ⟨bb, oo + j, none⟩ = some (.string (mkB P[j]))) := hid (fun j h wr m => by
        refine Mod.cellv m ?_ (fun e => by simp only at e; omega)
        have := hcc j (by rw [hmap]; exact h)
        rw [this]
        congr 2
        exact List.getElem_map _)
      have HBB := hid (show w.heap.size + 1 + 1 < bb by omega)
      have BYlt := hid (show w.heap.size + 1 + 1 < w1.heap.size from BY1.out.lt)
      clear hst hbk n1 hcc hb2 hBYl hbb
      by_cases h9 : P.length = 9
      · have e9 : ((P.length : Int) != 9) = false := by rw [h9]; rfl
        have hpd : (8 : Int) ≤ (pd : Int) := by omega
        have hpd2 : 8 ≤ pd := by omega
        have HO0 := hid (ownY_none BY1.out)
        go_wp2_with fail
        go_loopw [40, 5] (fun i o wr => ∃ (k : Nat) (v : Value) (N : List Nat), i = .int .i64 k ∧ v = o ∧ k ≤ 8 ∧ N.length = k ∧ (∀ j (hj : j < N.length), grp7 j (P.getD j []) = some N[j]) ∧ OwnY wr (w.heap.size + 1 + 1) v (unpairs N) ∧ (v.ownBlock = some (w.heap.size + 1 + 1) ∨ ∃ g, v.ownBlock = some g ∧ w1.heap.size ≤ g) ∧ Mod (fun j => j = w.heap.size + 1 + 1) w1 wr) (fun i _ _ => 8 - (intOf i).toNat)
        case atStart => exact ⟨0, _, [], rfl, rfl, by omega, rfl, fun j hj => absurd hj (by simp), HO0.out, .inl rfl, Mod.refl _ _⟩
        case round =>
          obtain ⟨k, ov, N, rfl, rfl, hk, hNl, hNG, hO, hOB, hN2⟩ := hrel
          have OYr := hid hO; have HOB := hid hOB; have HN2 := hid hN2; have HNG := hid hNG; have HNl := hid hNl
          have BAr := hid (Mod.blk hN2 BA1.out (by omega))
          have BXr := hid (Mod.blk hN2 BX1.out (by omega))
          have Nr : Hid (New w wr) := hid (N1.out.trans' hN2 (fun i hi e => by omega))
          clear hO hOB hNG hNl
          by_cases hlt : k < 8
          · have hltI : (k : Int) < 8 := by omega
            have hkP : k < P.length := by omega
            have g0 := HCC.out k hkP wr hN2
            have hxs := HSZ.out k hkP
            have HGD := hid (show P.getD k [] = P[k] by rw [List.getD_eq_getElem?_getD, List.getElem?_eq_getElem hkP]; rfl)
            obtain ⟨x, hx⟩ : ∃ x, x = mkB P[k] := ⟨_, rfl⟩
            have HXD := hid (show P.getD k [] = x.data.toList by rw [HGD.out, hx]; rfl)
            rw [← hx] at g0 hxs
            clear hx HGD hN2
            by_cases h7 : k = 7
            · have h7I : ((k : Int) == 7) = true := by rw [h7]; rfl
              by_cases hx0 : x.size = 0
              · have HX : Hid (X = none) := hid (by
                  rw [HXX.out]
                  refine six_none HHD.out (.inr ⟨k, by omega, ?_⟩)
                  rw [← HP.out, HXD.out, List.eq_nil_of_length_eq_zero (l := x.data.toList) (by rw [Array.length_toList]; exact hx0), h7]
                  rfl)
                have hqn : x.data.toList = [] := List.eq_nil_of_length_eq_zero (by rw [Array.length_toList]; exact hx0)
                have hte : (x.toList == []) = true := by rw [beq_iff_eq, ByteArray.toList_eq]; exact hqn
                have htI : x.toList.isEmpty = true := by rw [ByteArray.toList_eq, hqn]; rfl
                clear hqn hx0 h7
                have a0 := BAr.out.cellv 0 rfl; have a1 := BAr.out.cellv 1 rfl; have a2 := BAr.out.cellv 2 rfl; have al := BAr.out.lt; have af := BAr.out.frz
                go_wp2
                refine bodyPost_ret (v := .tuple #[.agg #[.int .i64 0, .string ⟨#[]⟩, .int .i64 0], .int .i64 2]) ?_ rfl ⟨by rw [HX.out]; rfl, ?_⟩
                · refine rap_results _ _ w.heap.size _ _ _ _ ?_ rfl rfl
                  apply Blk.row
                  · repeat (first | with_reducible exact BAr.out | (with_reducible apply Blk.newAt; (simp; done)) | with_reducible apply Blk.alloc | with_reducible apply Blk.drew | with_reducible apply Blk.drewN | with_reducible apply Blk.set | (with_reducible apply Blk.other; · first | (simp; done) | (simp; omega) | omega) | (with_reducible apply Blk.putObj; · first | (simp; done) | (simp; omega) | omega))
                  · rfl
                · have q := Nr.out
                  repeat (first | with_reducible exact q | with_reducible refine Mod.alloc ?_ _ | with_reducible refine Mod.drew ?_ | with_reducible refine Mod.drewN ?_ _ | (with_reducible refine Mod.set ?_ _ _ (by first | exact .inl rfl | (right; omega) | (right; simp; done) | (right; simp; omega) | (left; omega) | (left; simp; done) | (left; simp; omega))) | (with_reducible refine Mod.putObj ?_ _ _ (by first | exact .inl rfl | (right; omega) | (right; simp; done) | (right; simp; omega) | (left; omega) | (left; simp; done) | (left; simp; omega))))
              · have hxl : x.size - 1 < x.size := by omega
                have hm1 : ((x.size : Int) - 1).toNat = x.size - 1 := by omega
                have hm2 : (0 : Int) ≤ (x.size : Int) - 1 := by omega
                have hm3 : (x.size : Int) - 1 < (x.size : Int) := by omega
                have hmw : IntKind.i64.wrap ((x.size : Int) - 1) = (x.size : Int) - 1 := by rw [IntKind.wrap_i64]; omega
                have hm4 : (x.size : Int) - 1 ≤ (x.size : Int) := by omega
                have HLA := hid (last_at x hxl)
                have hqn : x.data.toList ≠ [] := fun e => by
                  have := congrArg List.length e
                  rw [Array.length_toList] at this
                  have h : x.size = 0 := this
                  omega
                have hte : (x.toList == []) = false := by rw [beq_eq_false_iff_ne, ByteArray.toList_eq]; exact hqn
                have htI : x.toList.isEmpty = false := by
                  rw [ByteArray.toList_eq]
                  cases hq : x.data.toList with
                  | nil => exact absurd hq hqn
                  | cons a r => rfl
                clear hqn hx0
                by_cases h93 : x[x.size - 1] = 93
                · have e93 : ((x[x.size - 1].toNat : Int) != 93) = false := by rw [h93]; rfl
                  have e93b : ((x[x.size - 1].toNat : Int) == 93) = true := by rw [h93]; rfl
                  have HQ0 := hid (show grp7 k (P.getD k []) = hexP (x.extract 0 (x.size - 1)).data.toList by
                    rw [HXD.out, h7]
                    unfold grp7
                    rw [if_pos rfl, HLA.out, h93, if_pos rfl]
                    congr 1
                    rw [ext_list, List.drop_zero, List.dropLast_eq_take, Array.length_toList]
                    rfl)
                  have hqs0 : (x.extract 0 (x.size - 1)).size ≤ x.size := by rw [ByteArray.size_extract]; omega
                  obtain ⟨q, hq⟩ : ∃ q, q = x.extract 0 (x.size - 1) := ⟨_, rfl⟩
                  rw [← hq] at HQ0 hqs0
                  have hq' := hq.symm
                  have HQ := HQ0
                  clear h93 HLA hq h7
                  have hxl : q.size = q.data.toList.length := by rw [Array.length_toList]; rfl
                  by_cases hb : q.size = 0 ∨ 4 < q.size
                  · have HX : Hid (X = none) := hid (by
                      rw [HXX.out]
                      refine six_none HHD.out (.inr ⟨k, by omega, ?_⟩)
                      rw [← HP.out, HQ.out]
                      exact hexP_bad (hb.imp (fun e => List.eq_nil_of_length_eq_zero (by omega)) (fun e => by omega)))
                    by_cases hb0 : q.size = 0
                    · have hqn : q.data.toList = [] := List.eq_nil_of_length_eq_zero (by omega)
                      have hte : (q.toList == []) = true := by rw [beq_iff_eq, ByteArray.toList_eq]; exact hqn
                      have htI : q.toList.isEmpty = true := by rw [ByteArray.toList_eq, hqn]; rfl
                      clear hb hb0 hqn hxl
                      have a0 := BAr.out.cellv 0 rfl; have a1 := BAr.out.cellv 1 rfl; have a2 := BAr.out.cellv 2 rfl; have al := BAr.out.lt; have af := BAr.out.frz
                      go_wp2
                      refine bodyPost_ret (v := .tuple #[.agg #[.int .i64 0, .string ⟨#[]⟩, .int .i64 0], .int .i64 2]) ?_ rfl ⟨by rw [HX.out]; rfl, ?_⟩
                      · refine rap_results _ _ w.heap.size _ _ _ _ ?_ rfl rfl
                        apply Blk.row
                        · repeat (first | with_reducible exact BAr.out | (with_reducible apply Blk.newAt; (simp; done)) | with_reducible apply Blk.alloc | with_reducible apply Blk.drew | with_reducible apply Blk.drewN | with_reducible apply Blk.set | (with_reducible apply Blk.other; · first | (simp; done) | (simp; omega) | omega) | (with_reducible apply Blk.putObj; · first | (simp; done) | (simp; omega) | omega))
                        · rfl
                      · have q := Nr.out
                        repeat (first | with_reducible exact q | with_reducible refine Mod.alloc ?_ _ | with_reducible refine Mod.drew ?_ | with_reducible refine Mod.drewN ?_ _ | (with_reducible refine Mod.set ?_ _ _ (by first | exact .inl rfl | (right; omega) | (right; simp; done) | (right; simp; omega) | (left; omega) | (left; simp; done) | (left; simp; omega))) | (with_reducible refine Mod.putObj ?_ _ _ (by first | exact .inl rfl | (right; omega) | (right; simp; done) | (right; simp; omega) | (left; omega) | (left; simp; done) | (left; simp; omega))))
                    · have hq4 : (4 : Int) < (q.size : Int) := by omega
                      have hqn : q.data.toList ≠ [] := fun e => by
                        have := congrArg List.length e
                        rw [Array.length_toList] at this
                        have h : q.size = 0 := this
                        omega
                      have hte : (q.toList == []) = false := by rw [beq_eq_false_iff_ne, ByteArray.toList_eq]; exact hqn
                      have htI : q.toList.isEmpty = false := by
                        rw [ByteArray.toList_eq]
                        cases hq : q.data.toList with
                        | nil => exact absurd hq hqn
                        | cons a r => rfl
                      clear hb hb0 hqn hxl
                      have a0 := BAr.out.cellv 0 rfl; have a1 := BAr.out.cellv 1 rfl; have a2 := BAr.out.cellv 2 rfl; have al := BAr.out.lt; have af := BAr.out.frz
                      go_wp2
                      refine bodyPost_ret (v := .tuple #[.agg #[.int .i64 0, .string ⟨#[]⟩, .int .i64 0], .int .i64 2]) ?_ rfl ⟨by rw [HX.out]; rfl, ?_⟩
                      · refine rap_results _ _ w.heap.size _ _ _ _ ?_ rfl rfl
                        apply Blk.row
                        · repeat (first | with_reducible exact BAr.out | (with_reducible apply Blk.newAt; (simp; done)) | with_reducible apply Blk.alloc | with_reducible apply Blk.drew | with_reducible apply Blk.drewN | with_reducible apply Blk.set | (with_reducible apply Blk.other; · first | (simp; done) | (simp; omega) | omega) | (with_reducible apply Blk.putObj; · first | (simp; done) | (simp; omega) | omega))
                        · rfl
                      · have q := Nr.out
                        repeat (first | with_reducible exact q | with_reducible refine Mod.alloc ?_ _ | with_reducible refine Mod.drew ?_ | with_reducible refine Mod.drewN ?_ _ | (with_reducible refine Mod.set ?_ _ _ (by first | exact .inl rfl | (right; omega) | (right; simp; done) | (right; simp; omega) | (left; omega) | (left; simp; done) | (left; simp; omega))) | (with_reducible refine Mod.putObj ?_ _ _ (by first | exact .inl rfl | (right; omega) | (right; simp; done) | (right; simp; omega) | (left; omega) | (left; simp; done) | (left; simp; omega))))
                  have hb0 : q.size ≠ 0 := by omega
                  have hq4 : ¬ (4 : Int) < (q.size : Int) := by omega
                  have HOKQ := hid (show hexP q.data.toList = nibG 0 q.data.toList from hexP_ok (fun e => hb (e.imp (fun e => by rw [hxl, e]; rfl) (fun e => by omega))))
                  have hqs : q.size ≤ 4 := by omega
                  have hqn : q.data.toList ≠ [] := fun e => by
                    have := congrArg List.length e
                    rw [Array.length_toList] at this
                    have h : q.size = 0 := this
                    omega
                  have hte : (q.toList == []) = false := by rw [beq_eq_false_iff_ne, ByteArray.toList_eq]; exact hqn
                  have htI : q.toList.isEmpty = false := by
                    rw [ByteArray.toList_eq]
                    cases hq : q.data.toList with
                    | nil => exact absurd hq hqn
                    | cons a r => rfl
                  clear hb hb0 hqn
                  have hxl2 := hid hxl
                  clear hxl
                  go_wp2_with fail
                  go_loop [73, 9] (fun i c => ∃ (m v : Nat), i = .int .i64 m ∧ c = .int .i64 (v : Int) ∧ m ≤ q.size ∧ nibG 0 (q.data.toList.take m) = some v ∧ v < 65536) (fun i _ => q.size - (intOf i).toNat)
                  case atStart => exact ⟨0, 0, rfl, rfl, by omega, by rw [List.take_zero]; rfl, by omega⟩
                  case round =>
                    obtain ⟨m, v, rfl, rfl, hm, hv, hv6⟩ := hrel
                    have HVV := hid hv
                    clear hv
                    by_cases hmq : m < q.size
                    · have hmI : (m : Int) < (q.size : Int) := by omega
                      have HNI := hid (fun W => nibble_any q[m] W)
                      obtain ⟨nb, hnb⟩ : ∃ nb, nb = nib q[m] := ⟨_, rfl⟩
                      have hni : nibI q[m] = nibV nb := by rw [hnb, nibI_V]
                      rw [hni] at HNI
                      have hmL : m < q.data.toList.length := by rw [← hxl2.out]; exact hmq
                      have HNB := hid (show nib (q.data.toList[m]'hmL) = nb from hnb.symm)
                      clear hni hnb
                      cases nb with
                      | none =>
                        have HX : Hid (X = none) := hid (by
                          rw [HXX.out]
                          refine six_none HHD.out (.inr ⟨k, by omega, ?_⟩)
                          rw [← HP.out, HQ.out, HOKQ.out]
                          exact nibG_bad hmL HVV.out HNB.out)
                        simp only [nibV] at HNI
                        clear HNB hmL
                        go_wp2_with fail
                        refine (HNI.out _).mono ?_
                        rintro e w8 ⟨rfl, rfl⟩
                        have a0 := BAr.out.cellv 0 rfl; have a1 := BAr.out.cellv 1 rfl; have a2 := BAr.out.cellv 2 rfl; have al := BAr.out.lt; have af := BAr.out.frz
                        go_wp2
                        refine bodyPost_ret (v := .tuple #[.agg #[.int .i64 0, .string ⟨#[]⟩, .int .i64 0], .int .i64 2]) ?_ rfl ⟨by rw [HX.out]; rfl, ?_⟩
                        · refine rap_results _ _ w.heap.size _ _ _ _ ?_ rfl rfl
                          apply Blk.row
                          · repeat (first | with_reducible exact BAr.out | (with_reducible apply Blk.newAt; (simp; done)) | with_reducible apply Blk.alloc | with_reducible apply Blk.drew | with_reducible apply Blk.drewN | with_reducible apply Blk.set | (with_reducible apply Blk.other; · first | (simp; done) | (simp; omega) | omega) | (with_reducible apply Blk.putObj; · first | (simp; done) | (simp; omega) | omega))
                          · rfl
                        · have q := Nr.out
                          repeat (first | with_reducible exact q | with_reducible refine Mod.alloc ?_ _ | with_reducible refine Mod.drew ?_ | with_reducible refine Mod.drewN ?_ _ | (with_reducible refine Mod.set ?_ _ _ (by first | exact .inl rfl | (right; omega) | (right; simp; done) | (right; simp; omega) | (left; omega) | (left; simp; done) | (left; simp; omega))) | (with_reducible refine Mod.putObj ?_ _ _ (by first | exact .inl rfl | (right; omega) | (right; simp; done) | (right; simp; omega) | (left; omega) | (left; simp; done) | (left; simp; omega))))
                      | some d =>
                        have hd16 := nib_lt HNB.out
                        have HNX := hid (nibG_next hmL HVV.out HNB.out)
                        have hlt := nibG_lt _ 0 _ HNX.out
                        rw [List.length_take] at hlt
                        have hlt2 : 16 ^ min (m + 1) q.data.toList.length ≤ 16 ^ 4 := Nat.pow_le_pow_right (by decide) (by rw [← hxl2.out]; omega)
                        have hv7 : v * 16 + d < 65536 := by omega
                        simp only [nibV] at HNI
                        have hdI : ¬ (d : Int) < 0 := by omega
                        have hm1 : IntKind.i64.wrap ((v : Int) * 16) = (v : Int) * 16 := IntWalk.i64_in _ (by omega)
                        have hm2 : IntKind.i64.wrap ((v : Int) * 16 + (d : Int)) = ((v * 16 + d : Nat) : Int) := by rw [IntWalk.i64_in _ (by omega)]; omega
                        clear HNB hmL hlt hlt2
                        go_wp2_with fail
                        refine (HNI.out _).mono ?_
                        rintro e w8 ⟨rfl, rfl⟩
                        go_wp2
                        exact ⟨⟨m + 1, v * 16 + d, by simp, rfl, by omega, HNX.out, hv7⟩, by simp [intOf]; omega⟩
                    · have hmI : ¬ (m : Int) < (q.size : Int) := by omega
                      have HGK := hid (show grp7 k (P.getD k []) = some v by
                        rw [HQ.out, HOKQ.out, ← HVV.out, List.take_of_length_le (by rw [← hxl2.out]; omega)])
                      have hq1 : (v : Int) / 256 = ((v / 256 : Nat) : Int) := by omega
                      have hq2 : (v : Int) % 256 = ((v % 256 : Nat) : Int) := by omega
                      have hw1 : IntKind.u8.wrap ((v / 256 : Nat) : Int) = ((v / 256 : Nat) : Int) := IntWalk.u8_in _ (by omega)
                      have hw2 : IntKind.u8.wrap ((v % 256 : Nat) : Int) = ((v % 256 : Nat) : Int) := IntWalk.u8_in _ (by omega)
                      have hb1 : (UInt8.ofNat (v / 256)).toNat = v / 256 := by rw [UInt8.toNat_ofNat']; omega
                      have hb2 : (UInt8.ofNat (v % 256)).toNat = v % 256 := by rw [UInt8.toNat_ofNat']; omega
                      obtain ⟨A, hA⟩ : ∃ A, A = UInt8.ofNat (v / 256) := ⟨_, rfl⟩
                      obtain ⟨B, hB⟩ : ∃ B, B = UInt8.ofNat (v % 256) := ⟨_, rfl⟩
                      rw [← hA] at hb1
                      rw [← hB] at hb2
                      rw [← hb1] at hq1 hw1
                      rw [← hb2] at hq2 hw2
                      have HAB := hid (And.intro hA hB)
                      have HUL := hid (unpairs_len N)
                      clear hb1 hb2 hA hB
                      go_wp2_with (first | (at_builtin; refine wpList_append_own_at _ rfl _ _ 42 rfl (w.heap.size + 1 + 1) 5 i0 _ 1 1 Tryz.underlying42 hi hz0 hz1 hz2 rfl (by decide) ov (unpairs N).length (byV (unpairs N)) rfl ?zowA ⟨wr.heap.size, 0, none⟩ 2 2 [.int .u8 (A.toNat : Int), .int .u8 (B.toNat : Int)] rfl rfl ?zhnA ?zh1A ?zh63A ?zhbyA ?zhbaA ?_) | fail)
                      case zowA => exact OYr.out.new ((Mod.refl _ _).alloc _)
                      try case zhnA => exact fun j u hj => two_new wr _ _ _ rfl j u hj
                      case zh1A => exact ⟨rfl, rfl⟩
                      case zh63A => have := HUL.out; have := HNl.out; unfold maxLen; omega
                      case zhbyA => have := HUL.out; have := HNl.out; omega
                      case zhbaA => have h1 := BYlt.out; have h2 := HN2.out.size; simp; omega
                      intro o7 w7 r7 g7 _ b7
                      have O7 := hid (ownY_of (l := unpairs N) [A, B] r7)
                      have N7 : Hid (Mod (fun j => j = w.heap.size + 1 + 1) w1 w7) := hid (modGrown (HN2.out.alloc _) g7 (fun j hj => by
                        rcases HOB.out with h | ⟨g, h, h'⟩
                        · rw [h] at hj; injection hj with hj; exact .inl hj.symm
                        · rw [h] at hj; injection hj with hj; exact .inr (by omega)))
                      have HOB7 : Hid (o7.ownBlock = some (w.heap.size + 1 + 1) ∨ ∃ g, o7.ownBlock = some g ∧ w1.heap.size ≤ g) := hid (by
                        rcases b7 with h | h
                        · rw [h]; exact HOB.out
                        · exact .inr ⟨_, h, by have := HN2.out.size; simp; omega⟩)
                      clear r7 g7 b7
                      go_wp2
                      exact ⟨⟨k + 1, _, N ++ [v], by simp, rfl, by omega, by rw [List.length_append, HNl.out]; rfl, fun j hj => by
                        by_cases hjk : j < N.length
                        · rw [List.getElem_append_left hjk]; exact HNG.out j hjk
                        · have hjk2 : j = N.length := by simp at hj; omega
                          subst hjk2
                          rw [List.getElem_append_right (by omega)]
                          simp only [Nat.sub_self, List.getElem_cons_zero]
                          rw [HNl.out]
                          exact HGK.out, by
                        rw [unpairs_app]
                        have := O7.out
                        rw [HAB.out.1, HAB.out.2] at this
                        exact this, HOB7.out, N7.out⟩, by simp [intOf]; omega⟩
                · have e93 : ((x[x.size - 1].toNat : Int) != 93) = true := by
                    rw [bne_iff_ne]
                    exact fun e => h93 (UInt8.toNat_inj.1 (by rw [show (93 : UInt8).toNat = 93 from rfl]; omega))
                  have e93b : ((x[x.size - 1].toNat : Int) == 93) = false := by
                    rw [beq_eq_false_iff_ne]
                    exact fun e => h93 (UInt8.toNat_inj.1 (by rw [show (93 : UInt8).toNat = 93 from rfl]; omega))
                  have HX : Hid (X = none) := hid (by
                    rw [HXX.out]
                    refine six_none HHD.out (.inr ⟨k, by omega, ?_⟩)
                    rw [← HP.out, HXD.out, h7]
                    unfold grp7
                    rw [if_pos rfl, HLA.out, if_neg (fun e => h93 (by injection e))])
                  clear h93 HLA h7
                  have a0 := BAr.out.cellv 0 rfl; have a1 := BAr.out.cellv 1 rfl; have a2 := BAr.out.cellv 2 rfl; have al := BAr.out.lt; have af := BAr.out.frz
                  go_wp2
                  refine bodyPost_ret (v := .tuple #[.agg #[.int .i64 0, .string ⟨#[]⟩, .int .i64 0], .int .i64 2]) ?_ rfl ⟨by rw [HX.out]; rfl, ?_⟩
                  · refine rap_results _ _ w.heap.size _ _ _ _ ?_ rfl rfl
                    apply Blk.row
                    · repeat (first | with_reducible exact BAr.out | (with_reducible apply Blk.newAt; (simp; done)) | with_reducible apply Blk.alloc | with_reducible apply Blk.drew | with_reducible apply Blk.drewN | with_reducible apply Blk.set | (with_reducible apply Blk.other; · first | (simp; done) | (simp; omega) | omega) | (with_reducible apply Blk.putObj; · first | (simp; done) | (simp; omega) | omega))
                    · rfl
                  · have q := Nr.out
                    repeat (first | with_reducible exact q | with_reducible refine Mod.alloc ?_ _ | with_reducible refine Mod.drew ?_ | with_reducible refine Mod.drewN ?_ _ | (with_reducible refine Mod.set ?_ _ _ (by first | exact .inl rfl | (right; omega) | (right; simp; done) | (right; simp; omega) | (left; omega) | (left; simp; done) | (left; simp; omega))) | (with_reducible refine Mod.putObj ?_ _ _ (by first | exact .inl rfl | (right; omega) | (right; simp; done) | (right; simp; omega) | (left; omega) | (left; simp; done) | (left; simp; omega))))
            · have h7I : ((k : Int) == 7) = false := by rw [beq_eq_false_iff_ne]; omega
              have HQ := hid (show grp7 k (P.getD k []) = hexP x.data.toList by
                rw [HXD.out]
                unfold grp7
                rw [if_neg h7])
              clear h7
              obtain ⟨q, rfl⟩ : ∃ q, q = x := ⟨_, rfl⟩
              have hxl : q.size = q.data.toList.length := by rw [Array.length_toList]; rfl
              by_cases hb : q.size = 0 ∨ 4 < q.size
              · have HX : Hid (X = none) := hid (by
                  rw [HXX.out]
                  refine six_none HHD.out (.inr ⟨k, by omega, ?_⟩)
                  rw [← HP.out, HQ.out]
                  exact hexP_bad (hb.imp (fun e => List.eq_nil_of_length_eq_zero (by omega)) (fun e => by omega)))
                by_cases hb0 : q.size = 0
                · have hqn : q.data.toList = [] := List.eq_nil_of_length_eq_zero (by omega)
                  have hte : (q.toList == []) = true := by rw [beq_iff_eq, ByteArray.toList_eq]; exact hqn
                  have htI : q.toList.isEmpty = true := by rw [ByteArray.toList_eq, hqn]; rfl
                  clear hb hb0 hqn hxl
                  have a0 := BAr.out.cellv 0 rfl; have a1 := BAr.out.cellv 1 rfl; have a2 := BAr.out.cellv 2 rfl; have al := BAr.out.lt; have af := BAr.out.frz
                  go_wp2
                  refine bodyPost_ret (v := .tuple #[.agg #[.int .i64 0, .string ⟨#[]⟩, .int .i64 0], .int .i64 2]) ?_ rfl ⟨by rw [HX.out]; rfl, ?_⟩
                  · refine rap_results _ _ w.heap.size _ _ _ _ ?_ rfl rfl
                    apply Blk.row
                    · repeat (first | with_reducible exact BAr.out | (with_reducible apply Blk.newAt; (simp; done)) | with_reducible apply Blk.alloc | with_reducible apply Blk.drew | with_reducible apply Blk.drewN | with_reducible apply Blk.set | (with_reducible apply Blk.other; · first | (simp; done) | (simp; omega) | omega) | (with_reducible apply Blk.putObj; · first | (simp; done) | (simp; omega) | omega))
                    · rfl
                  · have q := Nr.out
                    repeat (first | with_reducible exact q | with_reducible refine Mod.alloc ?_ _ | with_reducible refine Mod.drew ?_ | with_reducible refine Mod.drewN ?_ _ | (with_reducible refine Mod.set ?_ _ _ (by first | exact .inl rfl | (right; omega) | (right; simp; done) | (right; simp; omega) | (left; omega) | (left; simp; done) | (left; simp; omega))) | (with_reducible refine Mod.putObj ?_ _ _ (by first | exact .inl rfl | (right; omega) | (right; simp; done) | (right; simp; omega) | (left; omega) | (left; simp; done) | (left; simp; omega))))
                · have hq4 : (4 : Int) < (q.size : Int) := by omega
                  have hqn : q.data.toList ≠ [] := fun e => by
                    have := congrArg List.length e
                    rw [Array.length_toList] at this
                    have h : q.size = 0 := this
                    omega
                  have hte : (q.toList == []) = false := by rw [beq_eq_false_iff_ne, ByteArray.toList_eq]; exact hqn
                  have htI : q.toList.isEmpty = false := by
                    rw [ByteArray.toList_eq]
                    cases hq : q.data.toList with
                    | nil => exact absurd hq hqn
                    | cons a r => rfl
                  clear hb hb0 hqn hxl
                  have a0 := BAr.out.cellv 0 rfl; have a1 := BAr.out.cellv 1 rfl; have a2 := BAr.out.cellv 2 rfl; have al := BAr.out.lt; have af := BAr.out.frz
                  go_wp2
                  refine bodyPost_ret (v := .tuple #[.agg #[.int .i64 0, .string ⟨#[]⟩, .int .i64 0], .int .i64 2]) ?_ rfl ⟨by rw [HX.out]; rfl, ?_⟩
                  · refine rap_results _ _ w.heap.size _ _ _ _ ?_ rfl rfl
                    apply Blk.row
                    · repeat (first | with_reducible exact BAr.out | (with_reducible apply Blk.newAt; (simp; done)) | with_reducible apply Blk.alloc | with_reducible apply Blk.drew | with_reducible apply Blk.drewN | with_reducible apply Blk.set | (with_reducible apply Blk.other; · first | (simp; done) | (simp; omega) | omega) | (with_reducible apply Blk.putObj; · first | (simp; done) | (simp; omega) | omega))
                    · rfl
                  · have q := Nr.out
                    repeat (first | with_reducible exact q | with_reducible refine Mod.alloc ?_ _ | with_reducible refine Mod.drew ?_ | with_reducible refine Mod.drewN ?_ _ | (with_reducible refine Mod.set ?_ _ _ (by first | exact .inl rfl | (right; omega) | (right; simp; done) | (right; simp; omega) | (left; omega) | (left; simp; done) | (left; simp; omega))) | (with_reducible refine Mod.putObj ?_ _ _ (by first | exact .inl rfl | (right; omega) | (right; simp; done) | (right; simp; omega) | (left; omega) | (left; simp; done) | (left; simp; omega))))
              have hb0 : q.size ≠ 0 := by omega
              have hq4 : ¬ (4 : Int) < (q.size : Int) := by omega
              have HOKQ := hid (show hexP q.data.toList = nibG 0 q.data.toList from hexP_ok (fun e => hb (e.imp (fun e => by rw [hxl, e]; rfl) (fun e => by omega))))
              have hqs : q.size ≤ 4 := by omega
              have hqn : q.data.toList ≠ [] := fun e => by
                have := congrArg List.length e
                rw [Array.length_toList] at this
                have h : q.size = 0 := this
                omega
              have hte : (q.toList == []) = false := by rw [beq_eq_false_iff_ne, ByteArray.toList_eq]; exact hqn
              have htI : q.toList.isEmpty = false := by
                rw [ByteArray.toList_eq]
                cases hq : q.data.toList with
                | nil => exact absurd hq hqn
                | cons a r => rfl
              clear hb hb0 hqn
              have hxl2 := hid hxl
              clear hxl
              go_wp2_with fail
              go_loop [73, 9] (fun i c => ∃ (m v : Nat), i = .int .i64 m ∧ c = .int .i64 (v : Int) ∧ m ≤ q.size ∧ nibG 0 (q.data.toList.take m) = some v ∧ v < 65536) (fun i _ => q.size - (intOf i).toNat)
              case atStart => exact ⟨0, 0, rfl, rfl, by omega, by rw [List.take_zero]; rfl, by omega⟩
              case round =>
                obtain ⟨m, v, rfl, rfl, hm, hv, hv6⟩ := hrel
                have HVV := hid hv
                clear hv
                by_cases hmq : m < q.size
                · have hmI : (m : Int) < (q.size : Int) := by omega
                  have HNI := hid (fun W => nibble_any q[m] W)
                  obtain ⟨nb, hnb⟩ : ∃ nb, nb = nib q[m] := ⟨_, rfl⟩
                  have hni : nibI q[m] = nibV nb := by rw [hnb, nibI_V]
                  rw [hni] at HNI
                  have hmL : m < q.data.toList.length := by rw [← hxl2.out]; exact hmq
                  have HNB := hid (show nib (q.data.toList[m]'hmL) = nb from hnb.symm)
                  clear hni hnb
                  cases nb with
                  | none =>
                    have HX : Hid (X = none) := hid (by
                      rw [HXX.out]
                      refine six_none HHD.out (.inr ⟨k, by omega, ?_⟩)
                      rw [← HP.out, HQ.out, HOKQ.out]
                      exact nibG_bad hmL HVV.out HNB.out)
                    simp only [nibV] at HNI
                    clear HNB hmL
                    go_wp2_with fail
                    refine (HNI.out _).mono ?_
                    rintro e w8 ⟨rfl, rfl⟩
                    have a0 := BAr.out.cellv 0 rfl; have a1 := BAr.out.cellv 1 rfl; have a2 := BAr.out.cellv 2 rfl; have al := BAr.out.lt; have af := BAr.out.frz
                    go_wp2
                    refine bodyPost_ret (v := .tuple #[.agg #[.int .i64 0, .string ⟨#[]⟩, .int .i64 0], .int .i64 2]) ?_ rfl ⟨by rw [HX.out]; rfl, ?_⟩
                    · refine rap_results _ _ w.heap.size _ _ _ _ ?_ rfl rfl
                      apply Blk.row
                      · repeat (first | with_reducible exact BAr.out | (with_reducible apply Blk.newAt; (simp; done)) | with_reducible apply Blk.alloc | with_reducible apply Blk.drew | with_reducible apply Blk.drewN | with_reducible apply Blk.set | (with_reducible apply Blk.other; · first | (simp; done) | (simp; omega) | omega) | (with_reducible apply Blk.putObj; · first | (simp; done) | (simp; omega) | omega))
                      · rfl
                    · have q := Nr.out
                      repeat (first | with_reducible exact q | with_reducible refine Mod.alloc ?_ _ | with_reducible refine Mod.drew ?_ | with_reducible refine Mod.drewN ?_ _ | (with_reducible refine Mod.set ?_ _ _ (by first | exact .inl rfl | (right; omega) | (right; simp; done) | (right; simp; omega) | (left; omega) | (left; simp; done) | (left; simp; omega))) | (with_reducible refine Mod.putObj ?_ _ _ (by first | exact .inl rfl | (right; omega) | (right; simp; done) | (right; simp; omega) | (left; omega) | (left; simp; done) | (left; simp; omega))))
                  | some d =>
                    have hd16 := nib_lt HNB.out
                    have HNX := hid (nibG_next hmL HVV.out HNB.out)
                    have hlt := nibG_lt _ 0 _ HNX.out
                    rw [List.length_take] at hlt
                    have hlt2 : 16 ^ min (m + 1) q.data.toList.length ≤ 16 ^ 4 := Nat.pow_le_pow_right (by decide) (by rw [← hxl2.out]; omega)
                    have hv7 : v * 16 + d < 65536 := by omega
                    simp only [nibV] at HNI
                    have hdI : ¬ (d : Int) < 0 := by omega
                    have hm1 : IntKind.i64.wrap ((v : Int) * 16) = (v : Int) * 16 := IntWalk.i64_in _ (by omega)
                    have hm2 : IntKind.i64.wrap ((v : Int) * 16 + (d : Int)) = ((v * 16 + d : Nat) : Int) := by rw [IntWalk.i64_in _ (by omega)]; omega
                    clear HNB hmL hlt hlt2
                    go_wp2_with fail
                    refine (HNI.out _).mono ?_
                    rintro e w8 ⟨rfl, rfl⟩
                    go_wp2
                    exact ⟨⟨m + 1, v * 16 + d, by simp, rfl, by omega, HNX.out, hv7⟩, by simp [intOf]; omega⟩
                · have hmI : ¬ (m : Int) < (q.size : Int) := by omega
                  have HGK := hid (show grp7 k (P.getD k []) = some v by
                    rw [HQ.out, HOKQ.out, ← HVV.out, List.take_of_length_le (by rw [← hxl2.out]; omega)])
                  have hq1 : (v : Int) / 256 = ((v / 256 : Nat) : Int) := by omega
                  have hq2 : (v : Int) % 256 = ((v % 256 : Nat) : Int) := by omega
                  have hw1 : IntKind.u8.wrap ((v / 256 : Nat) : Int) = ((v / 256 : Nat) : Int) := IntWalk.u8_in _ (by omega)
                  have hw2 : IntKind.u8.wrap ((v % 256 : Nat) : Int) = ((v % 256 : Nat) : Int) := IntWalk.u8_in _ (by omega)
                  have hb1 : (UInt8.ofNat (v / 256)).toNat = v / 256 := by rw [UInt8.toNat_ofNat']; omega
                  have hb2 : (UInt8.ofNat (v % 256)).toNat = v % 256 := by rw [UInt8.toNat_ofNat']; omega
                  obtain ⟨A, hA⟩ : ∃ A, A = UInt8.ofNat (v / 256) := ⟨_, rfl⟩
                  obtain ⟨B, hB⟩ : ∃ B, B = UInt8.ofNat (v % 256) := ⟨_, rfl⟩
                  rw [← hA] at hb1
                  rw [← hB] at hb2
                  rw [← hb1] at hq1 hw1
                  rw [← hb2] at hq2 hw2
                  have HAB := hid (And.intro hA hB)
                  have HUL := hid (unpairs_len N)
                  clear hb1 hb2 hA hB
                  go_wp2_with (first | (at_builtin; refine wpList_append_own_at _ rfl _ _ 42 rfl (w.heap.size + 1 + 1) 5 i0 _ 1 1 Tryz.underlying42 hi hz0 hz1 hz2 rfl (by decide) ov (unpairs N).length (byV (unpairs N)) rfl ?zowB ⟨wr.heap.size, 0, none⟩ 2 2 [.int .u8 (A.toNat : Int), .int .u8 (B.toNat : Int)] rfl rfl ?zhnB ?zh1B ?zh63B ?zhbyB ?zhbaB ?_) | fail)
                  case zowB => exact OYr.out.new ((Mod.refl _ _).alloc _)
                  try case zhnB => exact fun j u hj => two_new wr _ _ _ rfl j u hj
                  case zh1B => exact ⟨rfl, rfl⟩
                  case zh63B => have := HUL.out; have := HNl.out; unfold maxLen; omega
                  case zhbyB => have := HUL.out; have := HNl.out; omega
                  case zhbaB => have h1 := BYlt.out; have h2 := HN2.out.size; simp; omega
                  intro o7 w7 r7 g7 _ b7
                  have O7 := hid (ownY_of (l := unpairs N) [A, B] r7)
                  have N7 : Hid (Mod (fun j => j = w.heap.size + 1 + 1) w1 w7) := hid (modGrown (HN2.out.alloc _) g7 (fun j hj => by
                    rcases HOB.out with h | ⟨g, h, h'⟩
                    · rw [h] at hj; injection hj with hj; exact .inl hj.symm
                    · rw [h] at hj; injection hj with hj; exact .inr (by omega)))
                  have HOB7 : Hid (o7.ownBlock = some (w.heap.size + 1 + 1) ∨ ∃ g, o7.ownBlock = some g ∧ w1.heap.size ≤ g) := hid (by
                    rcases b7 with h | h
                    · rw [h]; exact HOB.out
                    · exact .inr ⟨_, h, by have := HN2.out.size; simp; omega⟩)
                  clear r7 g7 b7
                  go_wp2
                  exact ⟨⟨k + 1, _, N ++ [v], by simp, rfl, by omega, by rw [List.length_append, HNl.out]; rfl, fun j hj => by
                    by_cases hjk : j < N.length
                    · rw [List.getElem_append_left hjk]; exact HNG.out j hjk
                    · have hjk2 : j = N.length := by simp at hj; omega
                      subst hjk2
                      rw [List.getElem_append_right (by omega)]
                      simp only [Nat.sub_self, List.getElem_cons_zero]
                      rw [HNl.out]
                      exact HGK.out, by
                    rw [unpairs_app]
                    have := O7.out
                    rw [HAB.out.1, HAB.out.2] at this
                    exact this, HOB7.out, N7.out⟩, by simp [intOf]; omega⟩
          · have hk8 : k = 8 := by omega
            have hltI : ¬ (k : Int) < 8 := by omega
            have hN8 : N.length = 8 := by rw [HNl.out, hk8]
            have h8 : 8 < P.length := by omega
            have h8I : (8 : Int) < (P.length : Int) := by omega
            have g8 := HCC.out 8 h8 wr hN2
            have hys := HSZ.out 8 h8
            have HGD := hid (show (pieces [] 58 (s.data.toList.drop 1)).getD 8 [] = P[8] by rw [← HP.out, List.getD_eq_getElem?_getD, List.getElem?_eq_getElem h8]; rfl)
            have HXP := hid (fun p h => six_all HHD.out hN8 (fun j hj => by rw [← HP.out]; exact HNG.out j hj) (p := p) h)
            obtain ⟨Y, hY⟩ : ∃ Y, Y = P[8] := ⟨_, rfl⟩
            rw [← hY] at g8 hys HGD
            rw [HGD.out] at HXP
            have hdg := fun W => rDig_any 65535 (mkB Y) W (by omega) (by omega) (by omega)
            rw [show (mkB Y).data.toList = Y from rfl] at hdg
            have HDG := hid hdg
            have hul : (unpairs N).length = 16 := by rw [unpairs_len, hN8]
            clear hdg hY HGD hN2 hN8 hk8
            have hpt := HDG.out
            obtain ⟨port, hport⟩ : ∃ port, port = digP 65535 Y := ⟨_, rfl⟩
            have HALL := hid (HXP.out port hport.symm)
            rw [← hport] at hpt
            have HDG2 := hid hpt
            obtain ⟨z, hz⟩ : ∃ z : AdrV, z = ⟨6, mkB (unpairs N), port⟩ := ⟨_, rfl⟩
            have HV : Hid (∀ W, Calls Tryz.prog 61 #[.agg #[.int .i64 6, .string (mkB (unpairs N)), .int .i64 port]] W fun e w' => e = .returned (.bool (adrOk z)) ∧ New W w') := hid (fun W => by rw [hz]; exact rAdrValid_any ⟨6, mkB (unpairs N), port⟩ W)
            have HTX : Hid (∀ W, adrOk z = true → Calls Tryz.prog 120 #[.agg #[.int .i64 6, .string (mkB (unpairs N)), .int .i64 port]] W fun e w' => e = .returned (.string (mkB (atxt z))) ∧ New W w') := hid (fun W ok => by rw [hz] at ok ⊢; exact rAtxt_any ⟨6, mkB (unpairs N), port⟩ W ok)
            have HZ := hid hz
            rw [← hz] at HALL
            clear hz hport hpt
            go_wp2_with fail
            refine (HDG2.out _).mono ?_
            rintro e w7 ⟨rfl, n7⟩
            have BA7 := hid (New.blk n7 BAr.out)
            have BX7 := hid (New.blk n7 BXr.out)
            have OY7 := hid (OwnY.new OYr.out n7)
            have N7 := hid (Nr.out.trans n7)
            have hcv := ownY_text (OY7.out.set (b := w.heap.size + 1) (by omega) 2 (.int .i64 port))
            have y0 : ((w7.setCell ⟨w.heap.size + 1, 2, none⟩ (.int .i64 port)).setCell ⟨w.heap.size + 1, 1, none⟩ (.string ⟨((unpairs N)).toArray⟩)).cell? ⟨w.heap.size + 1, 0, none⟩ = some (.int .i64 6) := ((BX7.out.set 2 (.int .i64 port)).set 1 (.string ⟨((unpairs N)).toArray⟩)).cellv 0 rfl
            have y1 : ((w7.setCell ⟨w.heap.size + 1, 2, none⟩ (.int .i64 port)).setCell ⟨w.heap.size + 1, 1, none⟩ (.string ⟨((unpairs N)).toArray⟩)).cell? ⟨w.heap.size + 1, 1, none⟩ = some (.string ⟨((unpairs N)).toArray⟩) := ((BX7.out.set 2 (.int .i64 port)).set 1 (.string ⟨((unpairs N)).toArray⟩)).cellv 1 rfl
            have y2 : ((w7.setCell ⟨w.heap.size + 1, 2, none⟩ (.int .i64 port)).setCell ⟨w.heap.size + 1, 1, none⟩ (.string ⟨((unpairs N)).toArray⟩)).cell? ⟨w.heap.size + 1, 2, none⟩ = some (.int .i64 port) := ((BX7.out.set 2 (.int .i64 port)).set 1 (.string ⟨((unpairs N)).toArray⟩)).cellv 2 rfl
            have xl := BX7.out.lt; have xf := BX7.out.frz
            have x1 := BX7.out.cellv 1 rfl; have x2 := BX7.out.cellv 2 rfl
            clear n7
            go_wp2_with fail
            refine name_worldA (p := fun W => Calls _ _ _ W _) (fun W8 hW8 => ?_)
            have BA8x : Blk W8 w.heap.size #[.int .i64 0, .string ⟨#[]⟩, .int .i64 0] 64 := by
              rw [hW8]
              apply Blk.row
              · repeat (first | with_reducible exact BA7.out | (with_reducible apply Blk.newAt; (simp; done)) | with_reducible apply Blk.alloc | with_reducible apply Blk.drew | with_reducible apply Blk.drewN | with_reducible apply Blk.set | (with_reducible apply Blk.other; · first | (simp; done) | (simp; omega) | omega) | (with_reducible apply Blk.putObj; · first | (simp; done) | (simp; omega) | omega))
              · rfl
            have BX8x : Blk W8 (w.heap.size + 1) #[.int .i64 6, .string (mkB (unpairs N)), .int .i64 port] 64 := by
              rw [hW8]
              apply Blk.row
              · repeat (first | with_reducible exact BX7.out | (with_reducible apply Blk.newAt; (simp; done)) | with_reducible apply Blk.alloc | with_reducible apply Blk.drew | with_reducible apply Blk.drewN | with_reducible apply Blk.set | (with_reducible apply Blk.other; · first | (simp; done) | (simp; omega) | omega) | (with_reducible apply Blk.putObj; · first | (simp; done) | (simp; omega) | omega))
              · rfl
            have N8x : New w W8 := by
              rw [hW8]
              have q := N7.out
              repeat (first | with_reducible exact q | with_reducible refine Mod.alloc ?_ _ | with_reducible refine Mod.drew ?_ | with_reducible refine Mod.drewN ?_ _ | (with_reducible refine Mod.set ?_ _ _ (by first | exact .inl rfl | (right; omega) | (right; simp; done) | (right; simp; omega) | (left; omega) | (left; simp; done) | (left; simp; omega))) | (with_reducible refine Mod.putObj ?_ _ _ (by first | exact .inl rfl | (right; omega) | (right; simp; done) | (right; simp; omega) | (left; omega) | (left; simp; done) | (left; simp; omega))))
            have BA8 := hid BA8x; have BX8 := hid BX8x; have N8 := hid N8x
            clear hW8 BA8x BX8x N8x y0 y1 y2 xl xf x1 x2 hcv
            refine (HV.out _).mono ?_
            rintro e w9 ⟨rfl, n9⟩
            have BA9 := hid (New.blk n9 BA8.out)
            have BX9 := hid (New.blk n9 BX8.out)
            have N9 := hid (N8.out.trans n9)
            have x0 := BX9.out.cellv 0 rfl; have x1 := BX9.out.cellv 1 rfl; have x2 := BX9.out.cellv 2 rfl
            clear n9
            cases hok : adrOk z with
            | false =>
              have HX : Hid (X = none) := hid (by rw [HXX.out, HALL.out, if_neg (by rw [hok]; simp)])
              have a0 := BA9.out.cellv 0 rfl; have a1 := BA9.out.cellv 1 rfl; have a2 := BA9.out.cellv 2 rfl; have al := BA9.out.lt; have af := BA9.out.frz
              go_wp2
              refine bodyPost_ret (v := .tuple #[.agg #[.int .i64 0, .string ⟨#[]⟩, .int .i64 0], .int .i64 2]) ?_ rfl ⟨by rw [HX.out]; rfl, ?_⟩
              · refine rap_results _ _ w.heap.size _ _ _ _ ?_ rfl rfl
                apply Blk.row
                · repeat (first | with_reducible exact BA9.out | (with_reducible apply Blk.newAt; (simp; done)) | with_reducible apply Blk.alloc | with_reducible apply Blk.drew | with_reducible apply Blk.drewN | with_reducible apply Blk.set | (with_reducible apply Blk.other; · first | (simp; done) | (simp; omega) | omega) | (with_reducible apply Blk.putObj; · first | (simp; done) | (simp; omega) | omega))
                · rfl
              · have q := N9.out
                repeat (first | with_reducible exact q | with_reducible refine Mod.alloc ?_ _ | with_reducible refine Mod.drew ?_ | with_reducible refine Mod.drewN ?_ _ | (with_reducible refine Mod.set ?_ _ _ (by first | exact .inl rfl | (right; omega) | (right; simp; done) | (right; simp; omega) | (left; omega) | (left; simp; done) | (left; simp; omega))) | (with_reducible refine Mod.putObj ?_ _ _ (by first | exact .inl rfl | (right; omega) | (right; simp; done) | (right; simp; omega) | (left; omega) | (left; simp; done) | (left; simp; omega))))
            | true =>
              have HTX2 := hid (fun W => HTX.out W hok)
              go_wp2_with fail
              refine (HTX2.out _).mono ?_
              rintro e w10 ⟨rfl, n10⟩
              have BA10 := hid (New.blk n10 BA9.out)
              have BX10 := hid (New.blk n10 BX9.out)
              have N10 := hid (N9.out.trans n10)
              clear n10 x0 x1 x2
              by_cases ht : atxt z = s.data.toList
              · have HX : Hid (X = some z) := hid (by rw [HXX.out, HALL.out, if_pos ⟨hok, ht⟩])
                have hq2 : ((mkB (atxt z)).toList == s.toList) = true := by rw [toL_eqB]; exact decide_eq_true ht
                have hq : ((mkB (atxt z)).toList != s.toList) = false := by rw [bne, hq2]; rfl
                have x0 := BX10.out.cellv 0 rfl; have x1 := BX10.out.cellv 1 rfl; have x2 := BX10.out.cellv 2 rfl
                have a0 := BA10.out.cellv 0 rfl; have a1 := BA10.out.cellv 1 rfl; have a2 := BA10.out.cellv 2 rfl; have al := BA10.out.lt; have af := BA10.out.frz
                clear ht hok
                go_wp2
                refine bodyPost_ret (v := .tuple #[.agg #[.int .i64 6, .string (mkB (unpairs N)), .int .i64 port], .int .i64 0]) ?_ rfl ⟨by rw [HX.out, HZ.out]; rfl, ?_⟩
                · refine rap_results _ _ w.heap.size _ _ _ _ ?_ rfl rfl
                  apply Blk.row
                  · repeat (first | with_reducible exact BA10.out | (with_reducible apply Blk.newAt; (simp; done)) | with_reducible apply Blk.alloc | with_reducible apply Blk.drew | with_reducible apply Blk.drewN | with_reducible apply Blk.set | (with_reducible apply Blk.other; · first | (simp; done) | (simp; omega) | omega) | (with_reducible apply Blk.putObj; · first | (simp; done) | (simp; omega) | omega))
                  · rfl
                · have q := N10.out
                  repeat (first | with_reducible exact q | with_reducible refine Mod.alloc ?_ _ | with_reducible refine Mod.drew ?_ | with_reducible refine Mod.drewN ?_ _ | (with_reducible refine Mod.set ?_ _ _ (by first | exact .inl rfl | (right; omega) | (right; simp; done) | (right; simp; omega) | (left; omega) | (left; simp; done) | (left; simp; omega))) | (with_reducible refine Mod.putObj ?_ _ _ (by first | exact .inl rfl | (right; omega) | (right; simp; done) | (right; simp; omega) | (left; omega) | (left; simp; done) | (left; simp; omega))))
              · have HX : Hid (X = none) := hid (by rw [HXX.out, HALL.out, if_neg (fun q => ht q.2)])
                have hq2 : ((mkB (atxt z)).toList == s.toList) = false := by rw [toL_eqB]; exact decide_eq_false ht
                have hq : ((mkB (atxt z)).toList != s.toList) = true := by rw [bne, hq2]; rfl
                clear ht hok
                have a0 := BA10.out.cellv 0 rfl; have a1 := BA10.out.cellv 1 rfl; have a2 := BA10.out.cellv 2 rfl; have al := BA10.out.lt; have af := BA10.out.frz
                go_wp2
                refine bodyPost_ret (v := .tuple #[.agg #[.int .i64 0, .string ⟨#[]⟩, .int .i64 0], .int .i64 2]) ?_ rfl ⟨by rw [HX.out]; rfl, ?_⟩
                · refine rap_results _ _ w.heap.size _ _ _ _ ?_ rfl rfl
                  apply Blk.row
                  · repeat (first | with_reducible exact BA10.out | (with_reducible apply Blk.newAt; (simp; done)) | with_reducible apply Blk.alloc | with_reducible apply Blk.drew | with_reducible apply Blk.drewN | with_reducible apply Blk.set | (with_reducible apply Blk.other; · first | (simp; done) | (simp; omega) | omega) | (with_reducible apply Blk.putObj; · first | (simp; done) | (simp; omega) | omega))
                  · rfl
                · have q := N10.out
                  repeat (first | with_reducible exact q | with_reducible refine Mod.alloc ?_ _ | with_reducible refine Mod.drew ?_ | with_reducible refine Mod.drewN ?_ _ | (with_reducible refine Mod.set ?_ _ _ (by first | exact .inl rfl | (right; omega) | (right; simp; done) | (right; simp; omega) | (left; omega) | (left; simp; done) | (left; simp; omega))) | (with_reducible refine Mod.putObj ?_ _ _ (by first | exact .inl rfl | (right; omega) | (right; simp; done) | (right; simp; omega) | (left; omega) | (left; simp; done) | (left; simp; omega))))
      · have e9 : ((P.length : Int) != 9) = true := by rw [bne_iff_ne]; omega
        have HX : Hid (X = none) := hid (by rw [HXX.out]; exact six_none HHD.out (.inl (by rw [← HP.out]; exact h9)))
        clear h9
        have a0 := BA1.out.cellv 0 rfl; have a1 := BA1.out.cellv 1 rfl; have a2 := BA1.out.cellv 2 rfl; have al := BA1.out.lt; have af := BA1.out.frz
        go_wp2
        refine bodyPost_ret (v := .tuple #[.agg #[.int .i64 0, .string ⟨#[]⟩, .int .i64 0], .int .i64 2]) ?_ rfl ⟨by rw [HX.out]; rfl, ?_⟩
        · refine rap_results _ _ w.heap.size _ _ _ _ ?_ rfl rfl
          apply Blk.row
          · repeat (first | with_reducible exact BA1.out | (with_reducible apply Blk.newAt; (simp; done)) | with_reducible apply Blk.alloc | with_reducible apply Blk.drew | with_reducible apply Blk.drewN | with_reducible apply Blk.set | (with_reducible apply Blk.other; · first | (simp; done) | (simp; omega) | omega) | (with_reducible apply Blk.putObj; · first | (simp; done) | (simp; omega) | omega))
          · rfl
        · have q := N1.out
          repeat (first | with_reducible exact q | with_reducible refine Mod.alloc ?_ _ | with_reducible refine Mod.drew ?_ | with_reducible refine Mod.drewN ?_ _ | (with_reducible refine Mod.set ?_ _ _ (by first | exact .inl rfl | (right; omega) | (right; simp; done) | (right; simp; omega) | (left; omega) | (left; simp; done) | (left; simp; omega))) | (with_reducible refine Mod.putObj ?_ _ _ (by first | exact .inl rfl | (right; omega) | (right; simp; done) | (right; simp; omega) | (left; omega) | (left; simp; done) | (left; simp; omega))))
    · have HHD := hid (show s.data.toList.head? ≠ some 91 by rw [HH.out]; exact fun e => h91 (by injection e))
      have e91 : ((s[0].toNat : Int) == 91) = false := by
        rw [beq_eq_false_iff_ne]
        exact fun e => h91 (UInt8.toNat_inj.1 (by rw [show (91 : UInt8).toNat = 91 from rfl]; omega))
      have HSP := hid (fun W => rCutS_any s 58 W (by omega))
      have HEL := hid (fun x hx => piece_le [] (by simp) 58 s.data.toList x hx)
      obtain ⟨E, hE⟩ : ∃ E, E = pieces [] 58 s.data.toList := ⟨_, rfl⟩
      have HE := hid hE
      have HSE : Hid (∀ j (h : j < E.length), (mkB E[j]).size ≤ 65537) := hid (fun j h => by
        subst hE
        have h1 := HEL.out _ (List.getElem_mem h)
        have h2 : (mkB (pieces [] 58 s.data.toList)[j]).size = ((pieces [] 58 s.data.toList)[j]).length := size_list _
        omega)
      rw [← hE] at HSP
      have hmap : (E.map mkB).length = E.length := List.length_map _
      rw [hmap] at HSP
      have hE0 : 0 < E.length := by rw [hE]; exact List.length_pos_iff.2 (pieces_ne _ _ _)
      have hEle : E.length ≤ 65537 := by
        have h1 := pieces_len [] 58 s.data.toList
        have h2 := List.count_le_length (l := s.data.toList) (a := 58)
        rw [← hE] at h1
        omega
      clear hE h91 h0 hqn hlen HH
      go_enter Tryz.func87, Tryz.ntmps87
      go_wp2_with fail
      refine name_worldA (p := fun W => Calls _ _ _ W _) (fun W hW => ?_)
      have BAx : Blk W w.heap.size #[.int .i64 0, .string ⟨#[]⟩, .int .i64 0] 64 := by
        rw [hW]
        apply Blk.row
        · repeat (first | with_reducible exact hI | (with_reducible apply Blk.newAt; (simp; done)) | with_reducible apply Blk.alloc | with_reducible apply Blk.drew | with_reducible apply Blk.drewN | with_reducible apply Blk.set | (with_reducible apply Blk.other; · first | (simp; done) | (simp; omega) | omega) | (with_reducible apply Blk.putObj; · first | (simp; done) | (simp; omega) | omega))
        · rfl
      have BXx : Blk W (w.heap.size + 1) #[.int .i64 4, .string ⟨#[]⟩, .int .i64 0] 64 := by
        rw [hW]
        apply Blk.row
        · repeat (first | with_reducible exact hI | (with_reducible apply Blk.newAt; (simp; done)) | with_reducible apply Blk.alloc | with_reducible apply Blk.drew | with_reducible apply Blk.drewN | with_reducible apply Blk.set | (with_reducible apply Blk.other; · first | (simp; done) | (simp; omega) | omega) | (with_reducible apply Blk.putObj; · first | (simp; done) | (simp; omega) | omega))
        · rfl
      have BYx : Blk W (w.heap.size + 1 + 1) #[] 5 := by
        rw [hW]
        apply Blk.row
        · repeat (first | with_reducible exact hI | (with_reducible apply Blk.newAt; (simp; done)) | with_reducible apply Blk.alloc | with_reducible apply Blk.drew | with_reducible apply Blk.drewN | with_reducible apply Blk.set | (with_reducible apply Blk.other; · first | (simp; done) | (simp; omega) | omega) | (with_reducible apply Blk.putObj; · first | (simp; done) | (simp; omega) | omega))
        · rfl
      have NWx : New w W := by
        rw [hW]
        repeat (first | with_reducible exact Mod.refl _ w | with_reducible refine Mod.alloc ?_ _ | with_reducible refine Mod.drew ?_ | with_reducible refine Mod.drewN ?_ _ | (with_reducible refine Mod.set ?_ _ _ (by first | exact .inl rfl | (right; omega) | (right; simp; done) | (right; simp; omega) | (left; omega) | (left; simp; done) | (left; simp; omega))) | (with_reducible refine Mod.putObj ?_ _ _ (by first | exact .inl rfl | (right; omega) | (right; simp; done) | (right; simp; omega) | (left; omega) | (left; simp; done) | (left; simp; omega))))
      have BA := hid BAx; have BX := hid BXx; have BY := hid BYx; have NW := hid NWx
      clear hW BAx BXx BYx NWx
      refine (HSP.out _).mono ?_
      rintro e w1 ⟨pa, pd, rfl, hst, hbk, n1⟩
      have BA1 := hid (New.blk n1 BA.out)
      have BX1 := hid (New.blk n1 BX.out)
      have BY1 := hid (New.blk n1 BY.out)
      have N1 := hid (NW.out.trans n1)
      obtain ⟨eb, eo, hbe, hbb, hcc⟩ := hst.get (by rw [hmap]; omega)
      subst hbe
      have er := hst.room; have ec := hst.cap
      rw [hmap] at er
      unfold maxLen at ec
      have hb2 := (hbk _ rfl).1
      simp only at hb2
      have hBYl := BY.out.lt
      have HEE := hid (show w.heap.size + 1 + 1 < eb by omega)
      have HC1 : Hid (∀ j (h : j < E.length), w1.cell? ⟨eb, eo + j, none⟩ = some (.string (mkB E[j]))) := hid (fun j h => by
        have := hcc j (by rw [hmap]; exact h)
        rw [this]
        congr 2
        exact List.getElem_map _)
      clear hst hbk n1 hcc hb2 hBYl hbb
      by_cases h2 : E.length = 2
      · have e2 : ((E.length : Int) != 2) = false := by rw [h2]; rfl
        have g0 := HC1.out 0 hE0
        rw [Nat.add_zero] at g0
        have hxs := HSE.out 0 hE0
        have hEI : (0 : Int) < (E.length : Int) := by omega
        have HGE := hid (show (pieces [] 58 s.data.toList).getD 0 [] = E[0] by rw [← HE.out, List.getD_eq_getElem?_getD, List.getElem?_eq_getElem hE0]; rfl)
        obtain ⟨x, hx⟩ : ∃ x, x = mkB E[0] := ⟨_, rfl⟩
        have HXD := hid (show (pieces [] 58 s.data.toList).getD 0 [] = x.data.toList by rw [HGE.out, hx]; rfl)
        rw [← hx] at g0 hxs
        clear hx HGE
        have HSQ := hid (fun W => rCutS_any x 46 W (by omega))
        have HPL := hid (fun y hy => piece_le [] (by simp) 46 x.data.toList y hy)
        have hxl : x.data.toList.length = x.size := by rw [Array.length_toList]; rfl
        obtain ⟨P, hP⟩ : ∃ P, P = pieces [] 46 x.data.toList := ⟨_, rfl⟩
        have HP := hid (show P = pieces [] 46 ((pieces [] 58 s.data.toList).getD 0 []) by rw [HXD.out]; exact hP)
        have HSZ : Hid (∀ j (h : j < P.length), (mkB P[j]).size ≤ 65538) := hid (fun j h => by
          subst hP
          have h1 := HPL.out _ (List.getElem_mem h)
          have h2 : (mkB (pieces [] 46 x.data.toList)[j]).size = ((pieces [] 46 x.data.toList)[j]).length := size_list _
          omega)
        rw [← hP] at HSQ
        have hmq : (P.map mkB).length = P.length := List.length_map _
        rw [hmq] at HSQ
        have hP0 : 0 < P.length := by rw [hP]; exact List.length_pos_iff.2 (pieces_ne _ _ _)
        have hPle : P.length ≤ 65538 := by
          have h1 := pieces_len [] 46 x.data.toList
          have h2 := List.count_le_length (l := x.data.toList) (a := 46)
          rw [← hP] at h1
          omega
        clear hP hxl
        go_wp2_with fail
        refine (HSQ.out _).mono ?_
        rintro e w2 ⟨qa, qd, rfl, hst, hbk, n2⟩
        have BA2 := hid (New.blk n2 BA1.out)
        have BX2 := hid (New.blk n2 BX1.out)
        have BY2 := hid (New.blk n2 BY1.out)
        have N2 := hid (N1.out.trans n2)
        obtain ⟨bb, oo, hbe, hbb, hcc⟩ := hst.get (by rw [hmq]; omega)
        subst hbe
        have er2 := hst.room; have ec2 := hst.cap
        rw [hmq] at er2
        unfold maxLen at ec2
        have hb2 := (hbk _ rfl).1
        simp only at hb2
        have hBYl := BY1.out.lt
        have HCC : Hid (∀ j (h : j < P.length) wr, Mod (fun j => j = w.heap.size + 1 + 1) w2 wr → wr.cell? ⟨bb, oo + j, none⟩ = some (.string (mkB P[j]))) := hid (fun j h wr m => by
          refine Mod.cellv m ?_ (fun e => by simp only at e; omega)
          have := hcc j (by rw [hmq]; exact h)
          rw [this]
          congr 2
          exact List.getElem_map _)
        have HCE : Hid (∀ wr, Mod (fun j => j = w.heap.size + 1 + 1) w2 wr → wr.cell? ⟨eb, eo + 1, none⟩ = some (.string (mkB (E[1]'(by omega))))) := hid (fun wr m => by
          refine Mod.cellv m (New.cellv n2 (HC1.out 1 (by omega))) (fun e => by have := HEE.out; simp only at e; omega))
        have BYlt := hid (show w.heap.size + 1 + 1 < w2.heap.size from BY2.out.lt)
        clear hst hbk n2 hcc hb2 hBYl hbb g0
        by_cases h4 : P.length = 4
        · have e4 : ((P.length : Int) != 4) = false := by rw [h4]; rfl
          have HO0 := hid (ownY_none BY2.out)
          go_wp2_with fail
          go_loopw [120, 5] (fun i o wr => ∃ (k : Nat) (v : Value) (N : List UInt8), i = .int .i64 k ∧ v = o ∧ k ≤ 4 ∧ N.length = k ∧ (∀ j (hj : j < N.length), digP 255 (P.getD j []) = (N[j].toNat : Int)) ∧ OwnY wr (w.heap.size + 1 + 1) v N ∧ (v.ownBlock = some (w.heap.size + 1 + 1) ∨ ∃ g, v.ownBlock = some g ∧ w2.heap.size ≤ g) ∧ Mod (fun j => j = w.heap.size + 1 + 1) w2 wr) (fun i _ _ => 4 - (intOf i).toNat)
          case atStart => exact ⟨0, _, [], rfl, rfl, by omega, rfl, fun j hj => absurd hj (by simp), HO0.out, .inl rfl, Mod.refl _ _⟩
          case round =>
            obtain ⟨k, ov, N, rfl, rfl, hk, hNl, hNG, hO, hOB, hN2⟩ := hrel
            have OYr := hid hO; have HOB := hid hOB; have HN2 := hid hN2; have HNG := hid hNG; have HNl := hid hNl
            have BAr := hid (Mod.blk hN2 BA2.out (by omega))
            have BXr := hid (Mod.blk hN2 BX2.out (by omega))
            have Nr : Hid (New w wr) := hid (N2.out.trans' hN2 (fun i hi e => by omega))
            clear hO hOB hNG hNl
            by_cases hlt : k < 4
            · have hltI : (k : Int) < 4 := by omega
              have hkP : k < P.length := by omega
              have g0 := HCC.out k hkP wr hN2
              have hxs := HSZ.out k hkP
              have HGD := hid (show P.getD k [] = P[k] by rw [List.getD_eq_getElem?_getD, List.getElem?_eq_getElem hkP]; rfl)
              obtain ⟨y, hy⟩ : ∃ y, y = P[k] := ⟨_, rfl⟩
              rw [← hy] at g0 hxs HGD
              have hdg := fun W => rDig_any 255 (mkB y) W (by omega) (by omega) (by omega)
              rw [show (mkB y).data.toList = y from rfl] at hdg
              obtain ⟨hdl, hdh⟩ := digP_low 255 y
              obtain ⟨d, hd⟩ : ∃ d, d = digP 255 y := ⟨_, rfl⟩
              rw [← hd] at hdg hdl hdh
              have HDG := hid hdg
              have HDD := hid (show digP 255 (P.getD k []) = d by rw [HGD.out, hd])
              clear hdg hd hy HGD hN2
              go_wp2_with fail
              refine (HDG.out _).mono ?_
              rintro e w3 ⟨rfl, n3⟩
              by_cases hd0 : d < 0
              · have HX : Hid (X = none) := hid (by
                  rw [HXX.out]
                  exact four_none HHD.out (.inr (.inr ⟨k, hlt, by rw [← HP.out, HDD.out]; exact hd0⟩)))
                have BA3 := hid (New.blk n3 BAr.out)
                have N3 := hid (Nr.out.trans n3)
                clear n3
                have a0 := BA3.out.cellv 0 rfl; have a1 := BA3.out.cellv 1 rfl; have a2 := BA3.out.cellv 2 rfl; have al := BA3.out.lt; have af := BA3.out.frz
                go_wp2
                refine bodyPost_ret (v := .tuple #[.agg #[.int .i64 0, .string ⟨#[]⟩, .int .i64 0], .int .i64 2]) ?_ rfl ⟨by rw [HX.out]; rfl, ?_⟩
                · refine rap_results _ _ w.heap.size _ _ _ _ ?_ rfl rfl
                  apply Blk.row
                  · repeat (first | with_reducible exact BA3.out | (with_reducible apply Blk.newAt; (simp; done)) | with_reducible apply Blk.alloc | with_reducible apply Blk.drew | with_reducible apply Blk.drewN | with_reducible apply Blk.set | (with_reducible apply Blk.other; · first | (simp; done) | (simp; omega) | omega) | (with_reducible apply Blk.putObj; · first | (simp; done) | (simp; omega) | omega))
                  · rfl
                · have q := N3.out
                  repeat (first | with_reducible exact q | with_reducible refine Mod.alloc ?_ _ | with_reducible refine Mod.drew ?_ | with_reducible refine Mod.drewN ?_ _ | (with_reducible refine Mod.set ?_ _ _ (by first | exact .inl rfl | (right; omega) | (right; simp; done) | (right; simp; omega) | (left; omega) | (left; simp; done) | (left; simp; omega))) | (with_reducible refine Mod.putObj ?_ _ _ (by first | exact .inl rfl | (right; omega) | (right; simp; done) | (right; simp; omega) | (left; omega) | (left; simp; done) | (left; simp; omega))))
              · have hw1 : IntKind.u8.wrap d = d := IntWalk.u8_in _ (by omega)
                have hb1 : ((UInt8.ofNat d.toNat).toNat : Int) = d := by rw [UInt8.toNat_ofNat']; omega
                obtain ⟨A, hA⟩ : ∃ A, A = UInt8.ofNat d.toNat := ⟨_, rfl⟩
                rw [← hA] at hb1
                rw [← hb1] at hw1
                have HDD2 := hid (show digP 255 (P.getD k []) = (A.toNat : Int) by rw [HDD.out, hb1])
                have OY3 := hid (OwnY.new OYr.out n3)
                have M3 : Hid (Mod (fun j => j = w.heap.size + 1 + 1) w2 w3) := hid (HN2.out.trans (New.mod n3))
                subst hb1
                clear hA n3
                go_wp2_with (first | (at_builtin; refine wpList_append_own_at _ rfl _ _ 42 rfl (w.heap.size + 1 + 1) 5 i0 _ 1 1 Tryz.underlying42 hi hz0 hz1 hz2 rfl (by decide) ov N.length (byV N) rfl ?zowC ⟨w3.heap.size, 0, none⟩ 1 1 [.int .u8 (A.toNat : Int)] rfl rfl ?zhnC ?zh1C ?zh63C ?zhbyC ?zhbaC ?_) | fail)
                case zowC => exact OY3.out.new ((Mod.refl _ _).alloc _)
                try case zhnC => exact cell_one_new _ _ _
                try case zh1C => first | rfl | (intro u hu; simp at hu; subst hu; rfl)
                case zh63C => have := HNl.out; unfold maxLen; omega
                case zhbyC => have := HNl.out; omega
                case zhbaC => have h1 := BYlt.out; have h2 := M3.out.size; simp; omega
                intro o7 w7 r7 g7 _ b7
                have O7 := hid (ownY_of (l := N) [A] r7)
                have N7 : Hid (Mod (fun j => j = w.heap.size + 1 + 1) w2 w7) := hid (modGrown (M3.out.alloc _) g7 (fun j hj => by
                  rcases HOB.out with h | ⟨g, h, h'⟩
                  · rw [h] at hj; injection hj with hj; exact .inl hj.symm
                  · rw [h] at hj; injection hj with hj; exact .inr (by omega)))
                have HOB7 : Hid (o7.ownBlock = some (w.heap.size + 1 + 1) ∨ ∃ g, o7.ownBlock = some g ∧ w2.heap.size ≤ g) := hid (by
                  rcases b7 with h | h
                  · rw [h]; exact HOB.out
                  · exact .inr ⟨_, h, by have := M3.out.size; simp; omega⟩)
                clear r7 g7 b7
                go_wp2
                exact ⟨⟨k + 1, _, N ++ [A], by simp, rfl, by omega, by rw [List.length_append, HNl.out]; rfl, fun j hj => by
                  by_cases hjk : j < N.length
                  · rw [List.getElem_append_left hjk]; exact HNG.out j hjk
                  · have hjk2 : j = N.length := by simp at hj; omega
                    subst hjk2
                    rw [List.getElem_append_right (by omega)]
                    simp only [Nat.sub_self, List.getElem_cons_zero]
                    rw [HNl.out]
                    exact HDD2.out, O7.out, HOB7.out, N7.out⟩, by simp [intOf]; omega⟩
            · have hk4 : k = 4 := by omega
              have hltI : ¬ (k : Int) < 4 := by omega
              have hN4 : N.length = 4 := by rw [HNl.out, hk4]
              have h8I : (1 : Int) < (E.length : Int) := by omega
              have g8 := HCE.out wr hN2
              have hys := HSE.out 1 (by omega)
              have HGD := hid (show (pieces [] 58 s.data.toList).getD 1 [] = E[1]'(by omega) by rw [← HE.out, List.getD_eq_getElem?_getD, List.getElem?_eq_getElem (by omega)]; rfl)
              have HXP := hid (fun p h => four_all HHD.out hN4 (fun j hj => by rw [← HP.out]; exact HNG.out j hj) (p := p) h)
              obtain ⟨Y, hY⟩ : ∃ Y, Y = E[1]'(by omega) := ⟨_, rfl⟩
              rw [← hY] at g8 hys HGD
              rw [HGD.out] at HXP
              have hdg := fun W => rDig_any 65535 (mkB Y) W (by omega) (by omega) (by omega)
              rw [show (mkB Y).data.toList = Y from rfl] at hdg
              have HDG := hid hdg
              clear hdg hY HGD hN2 hN4 hk4
              have hpt := HDG.out
              obtain ⟨port, hport⟩ : ∃ port, port = digP 65535 Y := ⟨_, rfl⟩
              have HALL := hid (HXP.out port hport.symm)
              rw [← hport] at hpt
              have HDG2 := hid hpt
              obtain ⟨z, hz⟩ : ∃ z : AdrV, z = ⟨4, mkB N, port⟩ := ⟨_, rfl⟩
              have HV : Hid (∀ W, Calls Tryz.prog 61 #[.agg #[.int .i64 4, .string (mkB N), .int .i64 port]] W fun e w' => e = .returned (.bool (adrOk z)) ∧ New W w') := hid (fun W => by rw [hz]; exact rAdrValid_any ⟨4, mkB N, port⟩ W)
              have HTX : Hid (∀ W, adrOk z = true → Calls Tryz.prog 120 #[.agg #[.int .i64 4, .string (mkB N), .int .i64 port]] W fun e w' => e = .returned (.string (mkB (atxt z))) ∧ New W w') := hid (fun W ok => by rw [hz] at ok ⊢; exact rAtxt_any ⟨4, mkB N, port⟩ W ok)
              have HZ := hid hz
              rw [← hz] at HALL
              clear hz hport hpt
              go_wp2_with fail
              refine (HDG2.out _).mono ?_
              rintro e w7 ⟨rfl, n7⟩
              have BA7 := hid (New.blk n7 BAr.out)
              have BX7 := hid (New.blk n7 BXr.out)
              have OY7 := hid (OwnY.new OYr.out n7)
              have N7 := hid (Nr.out.trans n7)
              have hcv := ownY_text (OY7.out.set (b := w.heap.size + 1) (by omega) 2 (.int .i64 port))
              have y0 : ((w7.setCell ⟨w.heap.size + 1, 2, none⟩ (.int .i64 port)).setCell ⟨w.heap.size + 1, 1, none⟩ (.string ⟨(N).toArray⟩)).cell? ⟨w.heap.size + 1, 0, none⟩ = some (.int .i64 4) := ((BX7.out.set 2 (.int .i64 port)).set 1 (.string ⟨(N).toArray⟩)).cellv 0 rfl
              have y1 : ((w7.setCell ⟨w.heap.size + 1, 2, none⟩ (.int .i64 port)).setCell ⟨w.heap.size + 1, 1, none⟩ (.string ⟨(N).toArray⟩)).cell? ⟨w.heap.size + 1, 1, none⟩ = some (.string ⟨(N).toArray⟩) := ((BX7.out.set 2 (.int .i64 port)).set 1 (.string ⟨(N).toArray⟩)).cellv 1 rfl
              have y2 : ((w7.setCell ⟨w.heap.size + 1, 2, none⟩ (.int .i64 port)).setCell ⟨w.heap.size + 1, 1, none⟩ (.string ⟨(N).toArray⟩)).cell? ⟨w.heap.size + 1, 2, none⟩ = some (.int .i64 port) := ((BX7.out.set 2 (.int .i64 port)).set 1 (.string ⟨(N).toArray⟩)).cellv 2 rfl
              have xl := BX7.out.lt; have xf := BX7.out.frz
              have x1 := BX7.out.cellv 1 rfl; have x2 := BX7.out.cellv 2 rfl
              clear n7
              go_wp2_with fail
              refine name_worldA (p := fun W => Calls _ _ _ W _) (fun W8 hW8 => ?_)
              have BA8x : Blk W8 w.heap.size #[.int .i64 0, .string ⟨#[]⟩, .int .i64 0] 64 := by
                rw [hW8]
                apply Blk.row
                · repeat (first | with_reducible exact BA7.out | (with_reducible apply Blk.newAt; (simp; done)) | with_reducible apply Blk.alloc | with_reducible apply Blk.drew | with_reducible apply Blk.drewN | with_reducible apply Blk.set | (with_reducible apply Blk.other; · first | (simp; done) | (simp; omega) | omega) | (with_reducible apply Blk.putObj; · first | (simp; done) | (simp; omega) | omega))
                · rfl
              have BX8x : Blk W8 (w.heap.size + 1) #[.int .i64 4, .string (mkB N), .int .i64 port] 64 := by
                rw [hW8]
                apply Blk.row
                · repeat (first | with_reducible exact BX7.out | (with_reducible apply Blk.newAt; (simp; done)) | with_reducible apply Blk.alloc | with_reducible apply Blk.drew | with_reducible apply Blk.drewN | with_reducible apply Blk.set | (with_reducible apply Blk.other; · first | (simp; done) | (simp; omega) | omega) | (with_reducible apply Blk.putObj; · first | (simp; done) | (simp; omega) | omega))
                · rfl
              have N8x : New w W8 := by
                rw [hW8]
                have q := N7.out
                repeat (first | with_reducible exact q | with_reducible refine Mod.alloc ?_ _ | with_reducible refine Mod.drew ?_ | with_reducible refine Mod.drewN ?_ _ | (with_reducible refine Mod.set ?_ _ _ (by first | exact .inl rfl | (right; omega) | (right; simp; done) | (right; simp; omega) | (left; omega) | (left; simp; done) | (left; simp; omega))) | (with_reducible refine Mod.putObj ?_ _ _ (by first | exact .inl rfl | (right; omega) | (right; simp; done) | (right; simp; omega) | (left; omega) | (left; simp; done) | (left; simp; omega))))
              have BA8 := hid BA8x; have BX8 := hid BX8x; have N8 := hid N8x
              clear hW8 BA8x BX8x N8x y0 y1 y2 xl xf x1 x2 hcv
              refine (HV.out _).mono ?_
              rintro e w9 ⟨rfl, n9⟩
              have BA9 := hid (New.blk n9 BA8.out)
              have BX9 := hid (New.blk n9 BX8.out)
              have N9 := hid (N8.out.trans n9)
              have x0 := BX9.out.cellv 0 rfl; have x1 := BX9.out.cellv 1 rfl; have x2 := BX9.out.cellv 2 rfl
              clear n9
              cases hok : adrOk z with
              | false =>
                have HX : Hid (X = none) := hid (by rw [HXX.out, HALL.out, if_neg (by rw [hok]; simp)])
                have a0 := BA9.out.cellv 0 rfl; have a1 := BA9.out.cellv 1 rfl; have a2 := BA9.out.cellv 2 rfl; have al := BA9.out.lt; have af := BA9.out.frz
                go_wp2
                refine bodyPost_ret (v := .tuple #[.agg #[.int .i64 0, .string ⟨#[]⟩, .int .i64 0], .int .i64 2]) ?_ rfl ⟨by rw [HX.out]; rfl, ?_⟩
                · refine rap_results _ _ w.heap.size _ _ _ _ ?_ rfl rfl
                  apply Blk.row
                  · repeat (first | with_reducible exact BA9.out | (with_reducible apply Blk.newAt; (simp; done)) | with_reducible apply Blk.alloc | with_reducible apply Blk.drew | with_reducible apply Blk.drewN | with_reducible apply Blk.set | (with_reducible apply Blk.other; · first | (simp; done) | (simp; omega) | omega) | (with_reducible apply Blk.putObj; · first | (simp; done) | (simp; omega) | omega))
                  · rfl
                · have q := N9.out
                  repeat (first | with_reducible exact q | with_reducible refine Mod.alloc ?_ _ | with_reducible refine Mod.drew ?_ | with_reducible refine Mod.drewN ?_ _ | (with_reducible refine Mod.set ?_ _ _ (by first | exact .inl rfl | (right; omega) | (right; simp; done) | (right; simp; omega) | (left; omega) | (left; simp; done) | (left; simp; omega))) | (with_reducible refine Mod.putObj ?_ _ _ (by first | exact .inl rfl | (right; omega) | (right; simp; done) | (right; simp; omega) | (left; omega) | (left; simp; done) | (left; simp; omega))))
              | true =>
                have HTX2 := hid (fun W => HTX.out W hok)
                go_wp2_with fail
                refine (HTX2.out _).mono ?_
                rintro e w10 ⟨rfl, n10⟩
                have BA10 := hid (New.blk n10 BA9.out)
                have BX10 := hid (New.blk n10 BX9.out)
                have N10 := hid (N9.out.trans n10)
                clear n10 x0 x1 x2
                by_cases ht : atxt z = s.data.toList
                · have HX : Hid (X = some z) := hid (by rw [HXX.out, HALL.out, if_pos ⟨hok, ht⟩])
                  have hq2 : ((mkB (atxt z)).toList == s.toList) = true := by rw [toL_eqB]; exact decide_eq_true ht
                  have hq : ((mkB (atxt z)).toList != s.toList) = false := by rw [bne, hq2]; rfl
                  have x0 := BX10.out.cellv 0 rfl; have x1 := BX10.out.cellv 1 rfl; have x2 := BX10.out.cellv 2 rfl
                  have a0 := BA10.out.cellv 0 rfl; have a1 := BA10.out.cellv 1 rfl; have a2 := BA10.out.cellv 2 rfl; have al := BA10.out.lt; have af := BA10.out.frz
                  clear ht hok
                  go_wp2
                  refine bodyPost_ret (v := .tuple #[.agg #[.int .i64 4, .string (mkB N), .int .i64 port], .int .i64 0]) ?_ rfl ⟨by rw [HX.out, HZ.out]; rfl, ?_⟩
                  · refine rap_results _ _ w.heap.size _ _ _ _ ?_ rfl rfl
                    apply Blk.row
                    · repeat (first | with_reducible exact BA10.out | (with_reducible apply Blk.newAt; (simp; done)) | with_reducible apply Blk.alloc | with_reducible apply Blk.drew | with_reducible apply Blk.drewN | with_reducible apply Blk.set | (with_reducible apply Blk.other; · first | (simp; done) | (simp; omega) | omega) | (with_reducible apply Blk.putObj; · first | (simp; done) | (simp; omega) | omega))
                    · rfl
                  · have q := N10.out
                    repeat (first | with_reducible exact q | with_reducible refine Mod.alloc ?_ _ | with_reducible refine Mod.drew ?_ | with_reducible refine Mod.drewN ?_ _ | (with_reducible refine Mod.set ?_ _ _ (by first | exact .inl rfl | (right; omega) | (right; simp; done) | (right; simp; omega) | (left; omega) | (left; simp; done) | (left; simp; omega))) | (with_reducible refine Mod.putObj ?_ _ _ (by first | exact .inl rfl | (right; omega) | (right; simp; done) | (right; simp; omega) | (left; omega) | (left; simp; done) | (left; simp; omega))))
                · have HX : Hid (X = none) := hid (by rw [HXX.out, HALL.out, if_neg (fun q => ht q.2)])
                  have hq2 : ((mkB (atxt z)).toList == s.toList) = false := by rw [toL_eqB]; exact decide_eq_false ht
                  have hq : ((mkB (atxt z)).toList != s.toList) = true := by rw [bne, hq2]; rfl
                  clear ht hok
                  have a0 := BA10.out.cellv 0 rfl; have a1 := BA10.out.cellv 1 rfl; have a2 := BA10.out.cellv 2 rfl; have al := BA10.out.lt; have af := BA10.out.frz
                  go_wp2
                  refine bodyPost_ret (v := .tuple #[.agg #[.int .i64 0, .string ⟨#[]⟩, .int .i64 0], .int .i64 2]) ?_ rfl ⟨by rw [HX.out]; rfl, ?_⟩
                  · refine rap_results _ _ w.heap.size _ _ _ _ ?_ rfl rfl
                    apply Blk.row
                    · repeat (first | with_reducible exact BA10.out | (with_reducible apply Blk.newAt; (simp; done)) | with_reducible apply Blk.alloc | with_reducible apply Blk.drew | with_reducible apply Blk.drewN | with_reducible apply Blk.set | (with_reducible apply Blk.other; · first | (simp; done) | (simp; omega) | omega) | (with_reducible apply Blk.putObj; · first | (simp; done) | (simp; omega) | omega))
                    · rfl
                  · have q := N10.out
                    repeat (first | with_reducible exact q | with_reducible refine Mod.alloc ?_ _ | with_reducible refine Mod.drew ?_ | with_reducible refine Mod.drewN ?_ _ | (with_reducible refine Mod.set ?_ _ _ (by first | exact .inl rfl | (right; omega) | (right; simp; done) | (right; simp; omega) | (left; omega) | (left; simp; done) | (left; simp; omega))) | (with_reducible refine Mod.putObj ?_ _ _ (by first | exact .inl rfl | (right; omega) | (right; simp; done) | (right; simp; omega) | (left; omega) | (left; simp; done) | (left; simp; omega))))
        · have e4 : ((P.length : Int) != 4) = true := by rw [bne_iff_ne]; omega
          have HX : Hid (X = none) := hid (by rw [HXX.out]; exact four_none HHD.out (.inr (.inl (by rw [← HP.out]; exact h4))))
          clear h4
          have a0 := BA2.out.cellv 0 rfl; have a1 := BA2.out.cellv 1 rfl; have a2 := BA2.out.cellv 2 rfl; have al := BA2.out.lt; have af := BA2.out.frz
          go_wp2
          refine bodyPost_ret (v := .tuple #[.agg #[.int .i64 0, .string ⟨#[]⟩, .int .i64 0], .int .i64 2]) ?_ rfl ⟨by rw [HX.out]; rfl, ?_⟩
          · refine rap_results _ _ w.heap.size _ _ _ _ ?_ rfl rfl
            apply Blk.row
            · repeat (first | with_reducible exact BA2.out | (with_reducible apply Blk.newAt; (simp; done)) | with_reducible apply Blk.alloc | with_reducible apply Blk.drew | with_reducible apply Blk.drewN | with_reducible apply Blk.set | (with_reducible apply Blk.other; · first | (simp; done) | (simp; omega) | omega) | (with_reducible apply Blk.putObj; · first | (simp; done) | (simp; omega) | omega))
            · rfl
          · have q := N2.out
            repeat (first | with_reducible exact q | with_reducible refine Mod.alloc ?_ _ | with_reducible refine Mod.drew ?_ | with_reducible refine Mod.drewN ?_ _ | (with_reducible refine Mod.set ?_ _ _ (by first | exact .inl rfl | (right; omega) | (right; simp; done) | (right; simp; omega) | (left; omega) | (left; simp; done) | (left; simp; omega))) | (with_reducible refine Mod.putObj ?_ _ _ (by first | exact .inl rfl | (right; omega) | (right; simp; done) | (right; simp; omega) | (left; omega) | (left; simp; done) | (left; simp; omega))))
      · have e2 : ((E.length : Int) != 2) = true := by rw [bne_iff_ne]; omega
        have HX : Hid (X = none) := hid (by rw [HXX.out]; exact four_none HHD.out (.inl (by rw [← HE.out]; exact h2)))
        clear h2
        have a0 := BA1.out.cellv 0 rfl; have a1 := BA1.out.cellv 1 rfl; have a2 := BA1.out.cellv 2 rfl; have al := BA1.out.lt; have af := BA1.out.frz
        go_wp2
        refine bodyPost_ret (v := .tuple #[.agg #[.int .i64 0, .string ⟨#[]⟩, .int .i64 0], .int .i64 2]) ?_ rfl ⟨by rw [HX.out]; rfl, ?_⟩
        · refine rap_results _ _ w.heap.size _ _ _ _ ?_ rfl rfl
          apply Blk.row
          · repeat (first | with_reducible exact BA1.out | (with_reducible apply Blk.newAt; (simp; done)) | with_reducible apply Blk.alloc | with_reducible apply Blk.drew | with_reducible apply Blk.drewN | with_reducible apply Blk.set | (with_reducible apply Blk.other; · first | (simp; done) | (simp; omega) | omega) | (with_reducible apply Blk.putObj; · first | (simp; done) | (simp; omega) | omega))
          · rfl
        · have q := N1.out
          repeat (first | with_reducible exact q | with_reducible refine Mod.alloc ?_ _ | with_reducible refine Mod.drew ?_ | with_reducible refine Mod.drewN ?_ _ | (with_reducible refine Mod.set ?_ _ _ (by first | exact .inl rfl | (right; omega) | (right; simp; done) | (right; simp; omega) | (left; omega) | (left; simp; done) | (left; simp; omega))) | (with_reducible refine Mod.putObj ?_ _ _ (by first | exact .inl rfl | (right; omega) | (right; simp; done) | (right; simp; omega) | (left; omega) | (left; simp; done) | (left; simp; omega))))
end Go.Proofs.YtbgmkplpolgebaaGreatDoor
