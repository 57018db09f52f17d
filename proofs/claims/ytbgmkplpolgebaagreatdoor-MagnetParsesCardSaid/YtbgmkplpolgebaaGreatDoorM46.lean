/-
  Several texts in one, in their build order. The reference's part, whatever the key. Conditions: the reader lies as told and is right; the text is small.
-/
import Derived.Test.YtbgmkplpolgebaaGreatDoorM43
import Derived.Test.YtbgmkplpolgebaaGreatDoorM44
import Derived.Test.YtbgmkplpolgebaaGreatDoorM45
namespace Go.Proofs.YtbgmkplpolgebaaGreatDoor
set_option linter.unusedSimpArgs false
set_option linter.unusedVariables false
open Go.RowKit Go.Shelf

set_option maxRecDepth 100000 in
set_option maxHeartbeats 4000000 in
theorem rpxt (B base : Nat) (m : MgV) (r : RdM) (K s : ByteArray) (w : World) (hK : K = pXt) (h : RdIs 59 w B base m r) (hs : s.size ≤ 65536) (hbs : base ≤ w.heap.size) (hok : MgOk m) :
    Calls Tryz.prog 29 #[.pointer (some ⟨B, 0, none⟩), .string K, .string s] w fun e w' => PartR B base w (topM m s) e w' := by
  have HS := hid h
  have hl1 := hok.trl; have hl2 := hok.wsl
  obtain ⟨X, hX⟩ : ∃ X, X = topM m s := ⟨_, rfl⟩
  rw [← hX]
  have e1 : (K.toList == [120, 116]) = true := by rw [hK]; decide +kernel
  have e2 : (K.toList == [100, 110]) = false := by rw [hK]; decide +kernel
  have e3 : (K.toList == [116, 114]) = false := by rw [hK]; decide +kernel
  have e4 : (K.toList == [119, 115]) = false := by rw [hK]; decide +kernel
  have e5 : (K.toList == [120, 46, 112, 101]) = false := by rw [hK]; decide +kernel
  have e6 : (K.toList == [115, 111]) = false := by rw [hK]; decide +kernel
  have HST := hid (fun W (n : New w W) => hX ▸ rxt_part B base m r s W (HS.out.next n) hs)
  clear h hok hX
  clear hK
  go_enter Tryz.func29, Tryz.ntmps29
  go_wp2_with fail
  refine (HST.out _ (Mod.refl _ _)).mono ?_
  intro e w' hq
  obtain ⟨rfl, hok, hm⟩ := hq
  have HOKR := hid hok
  have HMR := hid hm
  clear hok hm
  obtain ⟨C, hC⟩ : ∃ C, C = codeM X := ⟨_, rfl⟩
  rw [← hC]
  have HC := hid hC
  clear hC
  go_wp2_with fail
  go_ret
  exact ⟨by rw [HC.out]; rfl, HOKR.out, HMR.out⟩
set_option maxRecDepth 100000 in
set_option maxHeartbeats 4000000 in
theorem rptr (B base : Nat) (m : MgV) (r : RdM) (K s : ByteArray) (w : World) (hK : K = pTr) (h : RdIs 59 w B base m r) (hs : s.size ≤ 65536) (hbs : base ≤ w.heap.size) (hok : MgOk m) :
    Calls Tryz.prog 29 #[.pointer (some ⟨B, 0, none⟩), .string K, .string s] w fun e w' => PartR B base w (trM m s.data.toList) e w' := by
  have HS := hid h
  have hl1 := hok.trl; have hl2 := hok.wsl
  obtain ⟨X, hX⟩ : ∃ X, X = trM m s.data.toList := ⟨_, rfl⟩
  rw [← hX]
  have e1 : (K.toList == [120, 116]) = false := by rw [hK]; decide +kernel
  have e2 : (K.toList == [100, 110]) = false := by rw [hK]; decide +kernel
  have e3 : (K.toList == [116, 114]) = true := by rw [hK]; decide +kernel
  have e4 : (K.toList == [119, 115]) = false := by rw [hK]; decide +kernel
  have e5 : (K.toList == [120, 46, 112, 101]) = false := by rw [hK]; decide +kernel
  have e6 : (K.toList == [115, 111]) = false := by rw [hK]; decide +kernel
  have HST := hid (fun W (n : New w W) => hX ▸ rtr_part B base m r s W (HS.out.next n) hs (Nat.le_trans hbs n.size) hl1)
  clear h hok hX
  clear hK
  go_enter Tryz.func29, Tryz.ntmps29
  go_wp2_with fail
  refine (HST.out _ (Mod.refl _ _)).mono ?_
  intro e w' hq
  obtain ⟨rfl, hok, hm⟩ := hq
  have HOKR := hid hok
  have HMR := hid hm
  clear hok hm
  obtain ⟨C, hC⟩ : ∃ C, C = codeM X := ⟨_, rfl⟩
  rw [← hC]
  have HC := hid hC
  clear hC
  go_wp2_with fail
  go_ret
  exact ⟨by rw [HC.out]; rfl, HOKR.out, HMR.out⟩
set_option maxRecDepth 100000 in
set_option maxHeartbeats 4000000 in
theorem rpws (B base : Nat) (m : MgV) (r : RdM) (K s : ByteArray) (w : World) (hK : K = pWs) (h : RdIs 59 w B base m r) (hs : s.size ≤ 65536) (hbs : base ≤ w.heap.size) (hok : MgOk m) :
    Calls Tryz.prog 29 #[.pointer (some ⟨B, 0, none⟩), .string K, .string s] w fun e w' => PartR B base w (wsM m s.data.toList) e w' := by
  have HS := hid h
  have hl1 := hok.trl; have hl2 := hok.wsl
  obtain ⟨X, hX⟩ : ∃ X, X = wsM m s.data.toList := ⟨_, rfl⟩
  rw [← hX]
  have e1 : (K.toList == [120, 116]) = false := by rw [hK]; decide +kernel
  have e2 : (K.toList == [100, 110]) = false := by rw [hK]; decide +kernel
  have e3 : (K.toList == [116, 114]) = false := by rw [hK]; decide +kernel
  have e4 : (K.toList == [119, 115]) = true := by rw [hK]; decide +kernel
  have e5 : (K.toList == [120, 46, 112, 101]) = false := by rw [hK]; decide +kernel
  have e6 : (K.toList == [115, 111]) = false := by rw [hK]; decide +kernel
  have HST := hid (fun W (n : New w W) => hX ▸ rws_part B base m r s W (HS.out.next n) hs (Nat.le_trans hbs n.size) hl2)
  clear h hok hX
  clear hK
  go_enter Tryz.func29, Tryz.ntmps29
  go_wp2_with fail
  refine (HST.out _ (Mod.refl _ _)).mono ?_
  intro e w' hq
  obtain ⟨rfl, hok, hm⟩ := hq
  have HOKR := hid hok
  have HMR := hid hm
  clear hok hm
  obtain ⟨C, hC⟩ : ∃ C, C = codeM X := ⟨_, rfl⟩
  rw [← hC]
  have HC := hid hC
  clear hC
  go_wp2_with fail
  go_ret
  exact ⟨by rw [HC.out]; rfl, HOKR.out, HMR.out⟩
set_option maxRecDepth 100000 in
set_option maxHeartbeats 4000000 in
theorem rpso (B base : Nat) (m : MgV) (r : RdM) (K s : ByteArray) (w : World) (hK : K = pSo) (h : RdIs 59 w B base m r) (hs : s.size ≤ 65536) (hbs : base ≤ w.heap.size) (hok : MgOk m) :
    Calls Tryz.prog 29 #[.pointer (some ⟨B, 0, none⟩), .string K, .string s] w fun e w' => PartR B base w (soM m s.data.toList) e w' := by
  have HS := hid h
  have hl1 := hok.trl; have hl2 := hok.wsl
  obtain ⟨X, hX⟩ : ∃ X, X = soM m s.data.toList := ⟨_, rfl⟩
  rw [← hX]
  have e1 : (K.toList == [120, 116]) = false := by rw [hK]; decide +kernel
  have e2 : (K.toList == [100, 110]) = false := by rw [hK]; decide +kernel
  have e3 : (K.toList == [116, 114]) = false := by rw [hK]; decide +kernel
  have e4 : (K.toList == [119, 115]) = false := by rw [hK]; decide +kernel
  have e5 : (K.toList == [120, 46, 112, 101]) = false := by rw [hK]; decide +kernel
  have e6 : (K.toList == [115, 111]) = true := by rw [hK]; decide +kernel
  have HST := hid (fun W (n : New w W) => hX ▸ rso_part B base m r s W (HS.out.next n) hs (Nat.le_trans hbs n.size))
  clear h hok hX
  clear hK
  go_enter Tryz.func29, Tryz.ntmps29
  go_wp2_with fail
  refine (HST.out _ (Mod.refl _ _)).mono ?_
  intro e w' hq
  obtain ⟨rfl, hok, hm⟩ := hq
  have HOKR := hid hok
  have HMR := hid hm
  clear hok hm
  obtain ⟨C, hC⟩ : ∃ C, C = codeM X := ⟨_, rfl⟩
  rw [← hC]
  have HC := hid hC
  clear hC
  go_wp2_with fail
  go_ret
  exact ⟨by rw [HC.out]; rfl, HOKR.out, HMR.out⟩
set_option maxRecDepth 100000 in
set_option maxHeartbeats 4000000 in
theorem rpno (B base : Nat) (m : MgV) (r : RdM) (K s : ByteArray) (w : World) (h : RdIs 59 w B base m r)
    (h1 : K.data.toList ≠ pXt.data.toList) (h2 : K.data.toList ≠ pDn.data.toList) (h3 : K.data.toList ≠ pTr.data.toList) (h4 : K.data.toList ≠ pWs.data.toList) (h5 : K.data.toList ≠ pPe.data.toList) (h6 : K.data.toList ≠ pSo.data.toList) :
    Calls Tryz.prog 29 #[.pointer (some ⟨B, 0, none⟩), .string K, .string s] w fun e w' => PartR B base w (.ok m) e w' := by
  have e1 : (K.toList == [120, 116]) = false := (keyB (c := pXt)).trans (decide_eq_false h1)
  have e2 : (K.toList == [100, 110]) = false := (keyB (c := pDn)).trans (decide_eq_false h2)
  have e3 : (K.toList == [116, 114]) = false := (keyB (c := pTr)).trans (decide_eq_false h3)
  have e4 : (K.toList == [119, 115]) = false := (keyB (c := pWs)).trans (decide_eq_false h4)
  have e5 : (K.toList == [120, 46, 112, 101]) = false := (keyB (c := pPe)).trans (decide_eq_false h5)
  have e6 : (K.toList == [115, 111]) = false := (keyB (c := pSo)).trans (decide_eq_false h6)
  have H := hid h
  clear h h1 h2 h3 h4 h5 h6
  go_enter Tryz.func29, Tryz.ntmps29
  go_wp2_with fail
  go_ret
  exact PartR.yes rfl H.out (Mod.refl _ _)
theorem rpart_any (B base : Nat) (m : MgV) (r : RdM) (K s : ByteArray) (w : World) (h : RdIs 59 w B base m r) (hs : s.size ≤ 65536) (hbs : base ≤ w.heap.size) (hok : MgOk m) :
    Calls Tryz.prog 29 #[.pointer (some ⟨B, 0, none⟩), .string K, .string s] w fun e w' => PartR B base w (partM m K.data.toList s.data.toList) e w' := by
  have eq_of : ∀ {c : ByteArray}, K.data.toList = c.data.toList → K = c := fun q => bytes_ext q
  by_cases k1 : K.data.toList = pXt.data.toList
  · rw [partM_1 m k1, data_mkB]
    exact rpxt B base m r K s w (eq_of k1) h hs hbs hok
  by_cases k2 : K.data.toList = pDn.data.toList
  · rw [partM_2 m k2]
    exact rdn_part B base m r K s w (eq_of k2) h hs
  by_cases k3 : K.data.toList = pTr.data.toList
  · rw [partM_3 m k3]
    exact rptr B base m r K s w (eq_of k3) h hs hbs hok
  by_cases k4 : K.data.toList = pWs.data.toList
  · rw [partM_4 m k4]
    exact rpws B base m r K s w (eq_of k4) h hs hbs hok
  by_cases k5 : K.data.toList = pPe.data.toList
  · rw [partM_5 m k5]
    exact rpe_part B base m r K s w (eq_of k5) h hs hbs hok.pel
  by_cases k6 : K.data.toList = pSo.data.toList
  · rw [partM_6 m k6]
    exact rpso B base m r K s w (eq_of k6) h hs hbs hok
  rw [partM_7 m k1 k2 k3 k4 k5 k6]
  exact rpno B base m r K s w h k1 k2 k3 k4 k5 k6
/-- The place of the first c. -/
theorem cutB_skip (c : UInt8) : ∀ (A B : List UInt8), (∀ x ∈ A, x ≠ c) → cutB c (A ++ B) = (A ++ (cutB c B).1, (cutB c B).2.1, (cutB c B).2.2)
  | [], B, h => rfl
  | a :: A, B, h => by
    have ih := cutB_skip c A B (fun x hx => h x (List.mem_cons_of_mem _ hx))
    show (if a = c then ([], A ++ B, true) else (a :: (cutB c (A ++ B)).1, (cutB c (A ++ B)).2.1, (cutB c (A ++ B)).2.2)) = _
    rw [if_neg (h a (List.mem_cons_self ..)), ih]
    rfl
theorem cutB_hit {c : UInt8} {p : ByteArray} {k : Nat} (hk : k < p.size) (h : ∀ j (hj : j < k), p[j]'(by omega) ≠ c) (he : p[k] = c) : cutB c p.data.toList = ((p.extract 0 k).data.toList, (p.extract (k + 1) p.size).data.toList, true) := by
  have hl : p.data.toList.length = p.size := by rw [Array.length_toList]; rfl
  have e : p.data.toList = p.data.toList.take k ++ p[k] :: p.data.toList.drop (k + 1) := by rw [← drop_at p hk, List.take_append_drop]
  rw [ext_list, ext_list, List.drop_zero, Nat.sub_zero, List.take_of_length_le (l := p.data.toList.drop (k + 1)) (by rw [List.length_drop, hl]; omega)]
  conv => lhs; rw [e]
  rw [cutB_skip c _ _ (fun x hx => by
    obtain ⟨j, hj, rfl⟩ := List.mem_iff_getElem.1 hx
    rw [List.length_take] at hj
    rw [List.getElem_take]
    have := h j (by omega)
    exact this)]
  show (p.data.toList.take k ++ (cutB c (p[k] :: p.data.toList.drop (k + 1))).1, _, _) = _
  have e2 : cutB c (p[k] :: p.data.toList.drop (k + 1)) = ([], p.data.toList.drop (k + 1), true) := by
    show (if p[k] = c then _ else _) = _
    rw [if_pos he]
  rw [e2, List.append_nil]
theorem cutB_miss {c : UInt8} {p : ByteArray} (h : ∀ j (hj : j < p.size), p[j] ≠ c) : (cutB c p.data.toList).2.2 = false := by
  have hl : p.data.toList.length = p.size := by rw [Array.length_toList]; rfl
  have := cutB_skip c p.data.toList [] (fun x hx => by
    obtain ⟨j, hj, rfl⟩ := List.mem_iff_getElem.1 hx
    exact h j (by omega))
  rw [List.append_nil] at this
  rw [this]
  rfl
end Go.Proofs.YtbgmkplpolgebaaGreatDoor
