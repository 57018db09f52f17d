/-
  Several texts in one, in their build order. The reference's begins and topic. Condition: the text is small. A list of texts of the call's own, several of them side by side; the walks of text and added (package magnet). Conditions as told.
-/
import Derived.Test.YtbgmkplpolgebaaGreatDoorM9
import Derived.Test.YtbgmkplpolgebaaGreatDoorM11
import Derived.Test.YtbgmkplpolgebaaGreatDoorM35
import Derived.Maps.AppendAt
namespace Go.Proofs.YtbgmkplpolgebaaGreatDoor
set_option linter.unusedSimpArgs false
set_option linter.unusedVariables false
open Go.RowKit Go.Shelf

def begR (s p : ByteArray) : ByteArray := if isU p s = true then digU p s else ⟨#[]⟩
theorem pre_cut (s p : ByteArray) (h : p.size ≤ s.size) : ((s.extract 0 p.size).toList == p.toList) = isU p s := by
  rw [toL_eqB, ext_list, List.drop_zero]
  unfold isU Lib.hasPrefix
  rw [Bool.eq_iff_iff, decide_eq_true_eq, List.isPrefixOf_iff_prefix, List.prefix_iff_eq_take]
  have : p.data.toList.length = p.size := by rw [Array.length_toList]; rfl
  rw [this, Nat.sub_zero]
  exact eq_comm
theorem pre_long {s p : ByteArray} (h : s.size < p.size) : isU p s = false := by
  cases hq : isU p s with
  | false => rfl
  | true =>
    unfold isU Lib.hasPrefix at hq
    have := (List.isPrefixOf_iff_prefix.1 hq).length_le
    rw [Array.length_toList, Array.length_toList] at this
    have h1 : p.data.size ≤ s.data.size := this
    have h2 : s.data.size < p.data.size := h
    omega
theorem dig_cut {s p : ByteArray} (h : isU p s = true) : s.extract p.size s.size = digU p s := by
  apply bytes_ext
  rw [ext_list, List.take_of_length_le (by rw [List.length_drop, Array.length_toList]; exact Nat.le_refl _)]
  unfold digU Lib.trimPrefix
  have h' : Lib.hasPrefix s.data.toList p.data.toList = true := h
  rw [if_pos h', Array.length_toList]
  rfl
theorem begins_any (s p : ByteArray) (w : World) (hs : s.size ≤ 4000000) (hp : p.size ≤ 100) : Calls Tryz.prog 27 #[.string s, .string p] w fun e w' => e = .returned (.tuple #[.string (begR s p), .bool (isU p s)]) ∧ w = w' := by
  by_cases hlt : s.size < p.size
  · have hU := pre_long hlt
    have HR := hid (show begR s p = ⟨#[]⟩ by unfold begR; rw [hU]; rfl)
    have HU := hid hU
    have hI : (s.size : Int) < (p.size : Int) := by omega
    have hd : decide ((s.size : Int) < (p.size : Int)) = true := decide_eq_true hI
    clear hU hlt
    go_enter Tryz.func27, Tryz.ntmps27
    go_wp2
    go_ret2
    exact ⟨ret_ls HR.out.symm HU.out.symm, rfl⟩
  · have hI : ¬ (s.size : Int) < (p.size : Int) := by omega
    have hd : decide ((s.size : Int) < (p.size : Int)) = false := decide_eq_false hI
    have hle : (p.size : Int) ≤ (s.size : Int) := by omega
    have hleN : p.size ≤ s.size := by omega
    have hc := pre_cut s p hleN
    cases hU : isU p s with
    | true =>
      have HU := hid hU
      have HR := hid (show begR s p = s.extract p.size s.size by unfold begR; rw [if_pos hU, dig_cut hU])
      rw [hU] at hc
      have hn : ((s.extract 0 p.size).toList != p.toList) = false := by rw [bne, hc]; rfl
      clear hU hlt
      go_enter Tryz.func27, Tryz.ntmps27
      go_wp2
      go_ret2
      exact ⟨ret_ls HR.out.symm rfl, rfl⟩
    | false =>
      have HU := hid hU
      have HR := hid (show begR s p = ⟨#[]⟩ by unfold begR; rw [hU]; rfl)
      rw [hU] at hc
      have hn : ((s.extract 0 p.size).toList != p.toList) = true := by rw [bne, hc]; rfl
      clear hU hlt
      go_enter Tryz.func27, Tryz.ntmps27
      go_wp2
      go_ret2
      exact ⟨ret_ls HR.out.symm rfl, rfl⟩
/-- A topic of n bytes. -/
def rTop (n : Nat) (s : List UInt8) : Option (List UInt8) := if s.length ≠ 2 * n then none else hexC s
def topB (x : Option (List UInt8)) : ByteArray := ⟨(x.getD []).toArray⟩
theorem hexC_cons (a b : UInt8) (r : List UInt8) : hexC (a :: b :: r) = match nibC a, nibC b, hexC r with
    | some x, some y, some t => some (UInt8.ofNat (16 * x + y) :: t)
    | _, _, _ => none := unhex_low (a :: b :: r)
theorem hexC_bad1 {acc r : List UInt8} {a b : UInt8} {X : Option (List UInt8)} (h : (hexC (a :: b :: r)).map (acc ++ ·) = X) (hn : nibC a = none ∨ nibC b = none) : X = none := by
  rw [← h, hexC_cons]
  rcases hn with hn | hn
  · rw [hn]; rfl
  · rw [hn]; cases nibC a <;> rfl
theorem hexC_step {acc r : List UInt8} {a b : UInt8} {x y : Nat} {X : Option (List UInt8)} (h : (hexC (a :: b :: r)).map (acc ++ ·) = X) (h1 : nibC a = some x) (h2 : nibC b = some y) : (hexC r).map ((acc ++ [UInt8.ofNat (16 * x + y)]) ++ ·) = X := by
  rw [← h, hexC_cons, h1, h2]
  cases hexC r with
  | none => rfl
  | some t => simp
set_option maxRecDepth 100000 in
set_option maxHeartbeats 8000000 in
theorem rtopic_any (n : Nat) (s : ByteArray) (w : World) (hn : n ≤ 100) (hs : s.size ≤ 4000000) : Calls Tryz.prog 135 #[.string s, .int .i64 n] w fun e w' => e = .returned (.tuple #[.string (topB (rTop n s.data.toList)), .bool (rTop n s.data.toList).isSome]) ∧ New w w' := by
  have hlen : s.data.toList.length = s.size := by rw [Array.length_toList]; rfl
  obtain ⟨i0, hi, hz0, hz1, hz2⟩ := info_parts info_byte
  obtain ⟨X, hX⟩ : ∃ X, X = rTop n s.data.toList := ⟨_, rfl⟩
  rw [← hX]
  have HXX := hid hX
  clear hX
  have hw2 : IntKind.i64.wrap (2 * (n : Int)) = 2 * (n : Int) := IntWalk.i64_in _ (by omega)
  by_cases hsz : s.size = 2 * n
  · have e0 : ((s.size : Int) != 2 * (n : Int)) = false := by rw [bne_eq_false_iff_eq]; omega
    have HXH := hid (show X = hexC s.data.toList by rw [HXX.out]; unfold rTop; rw [if_neg (by omega)])
    have HO1 : Hid (OwnY (w.alloc (.cells #[] 5)) w.heap.size (.slice (some ⟨w.heap.size, 0, none⟩) 0 0) []) := hid (ownY_none (Blk.new w _ _))
    have HN1 : Hid (New w (w.alloc (.cells #[] 5))) := hid ((Mod.refl _ _).alloc _)
    have HSZ := hid hsz
    clear hsz
    go_enter Tryz.func135, Tryz.ntmps135
    go_wp2_with fail
    go_loopw [6, 7] (fun v i wr => ∃ (k : Nat) (o : Value) (acc : List UInt8), o = v ∧ i = .int .i64 k ∧ k ≤ s.size ∧ k % 2 = 0 ∧ OwnY wr w.heap.size o acc ∧ acc.length ≤ k ∧ (hexC (s.data.toList.drop k)).map (acc ++ ·) = X ∧ New w wr) (fun _ i _ => s.size - (intOf i).toNat)
    case atStart => exact ⟨0, _, [], rfl, rfl, by omega, rfl, HO1.out, by simp, by rw [List.drop_zero, HXH.out]; cases hexC s.data.toList <;> rfl, HN1.out⟩
    case round =>
      clear HO1 HN1
      obtain ⟨k, o, acc, rfl, rfl, hk, hk2, ho, hac, hl, hn⟩ := hrel
      have HO := hid ho; have HN := hid hn; have HL := hid hl
      have hsz := hn.size
      clear ho hn hl
      by_cases hlt : k < s.size
      · have hltI : (k : Int) < (s.size : Int) := by omega
        have ha : k + 1 < s.size := by have := HSZ.out; omega
        have haI : (k : Int) + 1 < (s.size : Int) := by omega
        have HK2 := hid hk2
        clear hk2
        have HD := hid (drop_at s hlt); have HD1 := hid (drop_at s ha)
        rw [HD.out, HD1.out] at HL
        have hk1 : IntKind.i64.wrap ((k : Int) + 1) = (k : Int) + 1 := by rw [IntKind.wrap_i64]; omega
        have hk3 : IntKind.i64.wrap ((k : Int) + 2) = (k : Int) + 2 := by rw [IntKind.wrap_i64]; omega
        have na : ((k : Int) + 1).toNat = k + 1 := by omega
        have pa : (0 : Int) ≤ (k : Int) + 1 := by omega
        cases hna : nibC s[k] with
        | none =>
          have eA := nibL_none hna
          have HNO := hid (hexC_bad1 HL.out (.inl hna))
          clear hna
          go_wp2_with fail
          refine wp_region_held_drew (S := (fun w' => True)) (by kernel_rfl) trivial (fun hHeld => ?_)
          refine tk (v := ?_) 0 ?_ ?_
          rotate_left
          · intro w hSw
            (try dsimp only at hSw)
            first | (go_simp; done) | (go_simp; with_reducible rfl) | with_reducible rfl
          simp only [Act.put, List.setIfInBounds_toArray, List.set_cons_zero, List.set_cons_succ]
          refine tk (v := ?_) 1 ?_ ?_
          rotate_left
          · intro w hSw
            (try dsimp only at hSw)
            first | (go_simp; done) | (go_simp; with_reducible rfl) | with_reducible rfl
          simp only [Act.put, List.setIfInBounds_toArray, List.set_cons_zero, List.set_cons_succ]
          refine tk (v := ?_) 2 ?_ ?_
          rotate_left
          · intro w hSw
            (try dsimp only at hSw)
            first | (go_simp; done) | (go_simp; with_reducible rfl) | with_reducible rfl
          simp only [Act.put, List.setIfInBounds_toArray, List.set_cons_zero, List.set_cons_succ]
          refine tk (v := ?_) 4 ?_ ?_
          rotate_left
          · intro w hSw
            (try dsimp only at hSw)
            first | (go_simp; done) | (go_simp; with_reducible rfl) | with_reducible rfl
          simp only [Act.put, List.setIfInBounds_toArray, List.set_cons_zero, List.set_cons_succ]
          refine tk (v := ?_) 5 ?_ ?_
          rotate_left
          · intro w hSw
            (try dsimp only at hSw)
            first | (go_simp; done) | (go_simp; with_reducible rfl) | with_reducible rfl
          simp only [Act.put, List.setIfInBounds_toArray, List.set_cons_zero, List.set_cons_succ]
          refine tk (v := ?_) 6 ?_ ?_
          rotate_left
          · intro w hSw
            (try dsimp only at hSw)
            first | (go_simp; done) | (go_simp; with_reducible rfl) | with_reducible rfl
          simp only [Act.put, List.setIfInBounds_toArray, List.set_cons_zero, List.set_cons_succ]
          refine tk (v := ?_) 7 ?_ ?_
          rotate_left
          · intro w hSw
            (try dsimp only at hSw)
            first | (go_simp; done) | (go_simp; with_reducible rfl) | with_reducible rfl
          simp only [Act.put, List.setIfInBounds_toArray, List.set_cons_zero, List.set_cons_succ]
          refine wpAnyH_ready (rs := [3]) (by kernel_rfl) (by simp) ?_
          refine AllReadyH.cons (by simp only [List.getElem?_toArray, List.getElem?_cons_succ, List.getElem?_cons_zero]; rfl) (fun K hK => ?_) AllReadyH.nil
          go_simp
          (go_at_call 136; refine (rnibble_any s[k] _).mono ?_; rintro e w3 ⟨rfl, rfl⟩)
          try dsimp only
          refine hK.out _ _ trivial (fun hHeld3 => ?_)
          clear hK K hHeld3
          try simp only [Act.put, List.setIfInBounds_toArray, List.set_cons_zero, List.set_cons_succ]
          refine wpAnyH_ready (rs := [8]) (by kernel_rfl) (by simp) ?_
          refine AllReadyH.cons (by simp only [List.getElem?_toArray, List.getElem?_cons_succ, List.getElem?_cons_zero]; rfl) (fun K hK => ?_) AllReadyH.nil
          go_simp
          (go_at_call 136; refine (rnibble_any s[k + 1] _).mono ?_; rintro e w3 ⟨rfl, rfl⟩)
          try dsimp only
          refine hK.out _ _ trivial (fun hHeld8 => ?_)
          clear hK K hHeld8
          try simp only [Act.put, List.setIfInBounds_toArray, List.set_cons_zero, List.set_cons_succ]
          refine tk (v := ?_) 9 ?_ ?_
          rotate_left
          · intro w hSw
            (try dsimp only at hSw)
            first | (go_simp; done) | (go_simp; with_reducible rfl) | with_reducible rfl
          simp only [Act.put, List.setIfInBounds_toArray, List.set_cons_zero, List.set_cons_succ]
          refine tk (v := ?_) 10 ?_ ?_
          rotate_left
          · intro w hSw
            (try dsimp only at hSw)
            first | (go_simp; done) | (go_simp; with_reducible rfl) | with_reducible rfl
          simp only [Act.put, List.setIfInBounds_toArray, List.set_cons_zero, List.set_cons_succ]
          refine wpAnyH_done (by kernel_rfl) ?_ _
          go_wp2_with fail
          go_ret2
          exact ⟨ret_ls (by rw [HNO.out]; rfl) (by rw [HNO.out]; rfl), HN.out.drew⟩
        | some x =>
          have hx16 := nibC_lt hna
          have eA := nibL_some hna
          cases hnb : nibC s[k + 1] with
          | none =>
            have eB := nibL_none hnb
            have HNO := hid (hexC_bad1 HL.out (.inr hnb))
            have hx0 : ¬ (x : Int) < 0 := by omega
            have hx1 : decide ((x : Int) < 0) = false := decide_eq_false hx0
            clear hna hnb
            go_wp2_with fail
            refine wp_region_held_drew (S := (fun w' => True)) (by kernel_rfl) trivial (fun hHeld => ?_)
            refine tk (v := ?_) 0 ?_ ?_
            rotate_left
            · intro w hSw
              (try dsimp only at hSw)
              first | (go_simp; done) | (go_simp; with_reducible rfl) | with_reducible rfl
            simp only [Act.put, List.setIfInBounds_toArray, List.set_cons_zero, List.set_cons_succ]
            refine tk (v := ?_) 1 ?_ ?_
            rotate_left
            · intro w hSw
              (try dsimp only at hSw)
              first | (go_simp; done) | (go_simp; with_reducible rfl) | with_reducible rfl
            simp only [Act.put, List.setIfInBounds_toArray, List.set_cons_zero, List.set_cons_succ]
            refine tk (v := ?_) 2 ?_ ?_
            rotate_left
            · intro w hSw
              (try dsimp only at hSw)
              first | (go_simp; done) | (go_simp; with_reducible rfl) | with_reducible rfl
            simp only [Act.put, List.setIfInBounds_toArray, List.set_cons_zero, List.set_cons_succ]
            refine tk (v := ?_) 4 ?_ ?_
            rotate_left
            · intro w hSw
              (try dsimp only at hSw)
              first | (go_simp; done) | (go_simp; with_reducible rfl) | with_reducible rfl
            simp only [Act.put, List.setIfInBounds_toArray, List.set_cons_zero, List.set_cons_succ]
            refine tk (v := ?_) 5 ?_ ?_
            rotate_left
            · intro w hSw
              (try dsimp only at hSw)
              first | (go_simp; done) | (go_simp; with_reducible rfl) | with_reducible rfl
            simp only [Act.put, List.setIfInBounds_toArray, List.set_cons_zero, List.set_cons_succ]
            refine tk (v := ?_) 6 ?_ ?_
            rotate_left
            · intro w hSw
              (try dsimp only at hSw)
              first | (go_simp; done) | (go_simp; with_reducible rfl) | with_reducible rfl
            simp only [Act.put, List.setIfInBounds_toArray, List.set_cons_zero, List.set_cons_succ]
            refine tk (v := ?_) 7 ?_ ?_
            rotate_left
            · intro w hSw
              (try dsimp only at hSw)
              first | (go_simp; done) | (go_simp; with_reducible rfl) | with_reducible rfl
            simp only [Act.put, List.setIfInBounds_toArray, List.set_cons_zero, List.set_cons_succ]
            refine wpAnyH_ready (rs := [3]) (by kernel_rfl) (by simp) ?_
            refine AllReadyH.cons (by simp only [List.getElem?_toArray, List.getElem?_cons_succ, List.getElem?_cons_zero]; rfl) (fun K hK => ?_) AllReadyH.nil
            go_simp
            (go_at_call 136; refine (rnibble_any s[k] _).mono ?_; rintro e w3 ⟨rfl, rfl⟩)
            try dsimp only
            refine hK.out _ _ trivial (fun hHeld3 => ?_)
            clear hK K hHeld3
            try simp only [Act.put, List.setIfInBounds_toArray, List.set_cons_zero, List.set_cons_succ]
            refine wpAnyH_ready (rs := [8]) (by kernel_rfl) (by simp) ?_
            refine AllReadyH.cons (by simp only [List.getElem?_toArray, List.getElem?_cons_succ, List.getElem?_cons_zero]; rfl) (fun K hK => ?_) AllReadyH.nil
            go_simp
            (go_at_call 136; refine (rnibble_any s[k + 1] _).mono ?_; rintro e w3 ⟨rfl, rfl⟩)
            try dsimp only
            refine hK.out _ _ trivial (fun hHeld8 => ?_)
            clear hK K hHeld8
            try simp only [Act.put, List.setIfInBounds_toArray, List.set_cons_zero, List.set_cons_succ]
            refine tk (v := ?_) 9 ?_ ?_
            rotate_left
            · intro w hSw
              (try dsimp only at hSw)
              first | (go_simp; done) | (go_simp; with_reducible rfl) | with_reducible rfl
            simp only [Act.put, List.setIfInBounds_toArray, List.set_cons_zero, List.set_cons_succ]
            refine tk (v := ?_) 10 ?_ ?_
            rotate_left
            · intro w hSw
              (try dsimp only at hSw)
              first | (go_simp; done) | (go_simp; with_reducible rfl) | with_reducible rfl
            simp only [Act.put, List.setIfInBounds_toArray, List.set_cons_zero, List.set_cons_succ]
            refine wpAnyH_done (by kernel_rfl) ?_ _
            go_wp2_with fail
            go_ret2
            exact ⟨ret_ls (by rw [HNO.out]; rfl) (by rw [HNO.out]; rfl), HN.out.drew⟩
          | some y =>
            have hy16 := nibC_lt hnb
            have eB := nibL_some hnb
            have HST := hid (hexC_step HL.out hna hnb)
            have hx0 : ¬ (x : Int) < 0 := by omega
            have hx1 : decide ((x : Int) < 0) = false := decide_eq_false hx0
            have hy0 : ¬ (y : Int) < 0 := by omega
            have hy1 : decide ((y : Int) < 0) = false := decide_eq_false hy0
            have hm1 : IntKind.i64.wrap (16 * (x : Int)) = 16 * (x : Int) := by rw [IntKind.wrap_i64]; omega
            have hm2 : IntKind.i64.wrap (16 * (x : Int) + (y : Int)) = 16 * (x : Int) + (y : Int) := by rw [IntKind.wrap_i64]; omega
            have hm3 : IntKind.u8.wrap (16 * (x : Int) + (y : Int)) = ((UInt8.ofNat (16 * x + y)).toNat : Int) := by
              rw [IntWalk.u8_in _ (by omega), UInt8.toNat_ofNat']
              omega
            obtain ⟨D, hD⟩ : ∃ D, D = UInt8.ofNat (16 * x + y) := ⟨_, rfl⟩
            rw [← hD] at hm3 HST
            clear hna hnb hD
            go_wp2_with fail
            refine wp_region_held_drew (S := (fun w' => True)) (by kernel_rfl) trivial (fun hHeld => ?_)
            refine tk (v := ?_) 0 ?_ ?_
            rotate_left
            · intro w hSw
              (try dsimp only at hSw)
              first | (go_simp; done) | (go_simp; with_reducible rfl) | with_reducible rfl
            simp only [Act.put, List.setIfInBounds_toArray, List.set_cons_zero, List.set_cons_succ]
            refine tk (v := ?_) 1 ?_ ?_
            rotate_left
            · intro w hSw
              (try dsimp only at hSw)
              first | (go_simp; done) | (go_simp; with_reducible rfl) | with_reducible rfl
            simp only [Act.put, List.setIfInBounds_toArray, List.set_cons_zero, List.set_cons_succ]
            refine tk (v := ?_) 2 ?_ ?_
            rotate_left
            · intro w hSw
              (try dsimp only at hSw)
              first | (go_simp; done) | (go_simp; with_reducible rfl) | with_reducible rfl
            simp only [Act.put, List.setIfInBounds_toArray, List.set_cons_zero, List.set_cons_succ]
            refine tk (v := ?_) 4 ?_ ?_
            rotate_left
            · intro w hSw
              (try dsimp only at hSw)
              first | (go_simp; done) | (go_simp; with_reducible rfl) | with_reducible rfl
            simp only [Act.put, List.setIfInBounds_toArray, List.set_cons_zero, List.set_cons_succ]
            refine tk (v := ?_) 5 ?_ ?_
            rotate_left
            · intro w hSw
              (try dsimp only at hSw)
              first | (go_simp; done) | (go_simp; with_reducible rfl) | with_reducible rfl
            simp only [Act.put, List.setIfInBounds_toArray, List.set_cons_zero, List.set_cons_succ]
            refine tk (v := ?_) 6 ?_ ?_
            rotate_left
            · intro w hSw
              (try dsimp only at hSw)
              first | (go_simp; done) | (go_simp; with_reducible rfl) | with_reducible rfl
            simp only [Act.put, List.setIfInBounds_toArray, List.set_cons_zero, List.set_cons_succ]
            refine tk (v := ?_) 7 ?_ ?_
            rotate_left
            · intro w hSw
              (try dsimp only at hSw)
              first | (go_simp; done) | (go_simp; with_reducible rfl) | with_reducible rfl
            simp only [Act.put, List.setIfInBounds_toArray, List.set_cons_zero, List.set_cons_succ]
            refine wpAnyH_ready (rs := [3]) (by kernel_rfl) (by simp) ?_
            refine AllReadyH.cons (by simp only [List.getElem?_toArray, List.getElem?_cons_succ, List.getElem?_cons_zero]; rfl) (fun K hK => ?_) AllReadyH.nil
            go_simp
            (go_at_call 136; refine (rnibble_any s[k] _).mono ?_; rintro e w3 ⟨rfl, rfl⟩)
            try dsimp only
            refine hK.out _ _ trivial (fun hHeld3 => ?_)
            clear hK K hHeld3
            try simp only [Act.put, List.setIfInBounds_toArray, List.set_cons_zero, List.set_cons_succ]
            refine wpAnyH_ready (rs := [8]) (by kernel_rfl) (by simp) ?_
            refine AllReadyH.cons (by simp only [List.getElem?_toArray, List.getElem?_cons_succ, List.getElem?_cons_zero]; rfl) (fun K hK => ?_) AllReadyH.nil
            go_simp
            (go_at_call 136; refine (rnibble_any s[k + 1] _).mono ?_; rintro e w3 ⟨rfl, rfl⟩)
            try dsimp only
            refine hK.out _ _ trivial (fun hHeld8 => ?_)
            clear hK K hHeld8
            try simp only [Act.put, List.setIfInBounds_toArray, List.set_cons_zero, List.set_cons_succ]
            refine tk (v := ?_) 9 ?_ ?_
            rotate_left
            · intro w hSw
              (try dsimp only at hSw)
              first | (go_simp; done) | (go_simp; with_reducible rfl) | with_reducible rfl
            simp only [Act.put, List.setIfInBounds_toArray, List.set_cons_zero, List.set_cons_succ]
            refine tk (v := ?_) 10 ?_ ?_
            rotate_left
            · intro w hSw
              (try dsimp only at hSw)
              first | (go_simp; done) | (go_simp; with_reducible rfl) | with_reducible rfl
            simp only [Act.put, List.setIfInBounds_toArray, List.set_cons_zero, List.set_cons_succ]
            refine wpAnyH_done (by kernel_rfl) ?_ _
            go_wp2_with (at_builtin; refine wpList_append_own_at _ rfl _ _ 42 rfl w.heap.size 5 i0 _ 1 1 Tryz.underlying42 hi hz0 hz1 hz2 rfl (by decide) _ acc.length (byV acc) rfl ?ow ⟨wr.heap.size, 0, none⟩ 1 1 [.int .u8 (D.toNat : Int)] rfl rfl ?hn ?h1 ?h63 ?hby ?hba ?_)
            case ow => exact HO.out.new (((Mod.refl _ _).drew).alloc _)
            case hn =>
              intro j u hj
              rw [show (⟨wr.heap.size, 0, none⟩ : Addr).add j = ⟨wr.heap.size, 0 + j, none⟩ by unfold Addr.add; split <;> simp_all]
              match j, hj with
              | 0, hj => simp at hj; subst hj; exact (Blk.newAt (by simp)).cellv 0 rfl
            case h1 => intro u hu; simp at hu; subst hu; rfl
            case h63 => unfold maxLen; omega
            case hby => omega
            case hba => simp; omega
            intro o' w' r' g' _ _
            have O' := hid (ownY_of (l := acc) [D] r')
            have N' := hid (new_grownY (HO.out.new (((Mod.refl _ _).drew).alloc _)) (Nat.le_refl _) (HN.out.drew.alloc _) g')
            clear r' g'
            go_wp2_with fail
            exact ⟨⟨k + 2, _, acc ++ [D], rfl, by simp, by omega, by have := HK2.out; omega, O'.out, by simp; omega, HST.out, N'.out⟩, by simp [intOf]; omega⟩
      · have hkk : k = s.size := by omega
        have HSM := hid (show X = some acc by
          rw [← HL.out, List.drop_of_length_le (by omega)]
          simp [hexC, unhex])
        have HT := hid (ownY_text HO.out)
        have hcv := HT.out
        have hltI : ¬ (k : Int) < (s.size : Int) := by omega
        clear hkk
        go_wp2_with fail
        go_ret2
        exact ⟨ret_ls (by rw [HSM.out]; rfl) (by rw [HSM.out]; rfl), HN.out⟩
  · have e0 : ((s.size : Int) != 2 * (n : Int)) = true := by rw [bne_iff_ne]; omega
    have HNO : Hid (X = none) := hid (by rw [HXX.out]; unfold rTop; rw [if_pos (by omega)])
    clear hsz
    go_enter Tryz.func135, Tryz.ntmps135
    go_wp2_with fail
    go_ret2
    exact ⟨ret_ls (by rw [HNO.out]; rfl) (by rw [HNO.out]; rfl), Mod.refl _ _⟩
end Go.Proofs.YtbgmkplpolgebaaGreatDoor

namespace Go.Proofs.YtbgmkplpolgebaaGreatDoor
set_option linter.unusedSimpArgs false
set_option linter.unusedVariables false
open Go.RowKit Go.Shelf

theorem info_strM : (Tryz.prog.info? 9).map (fun i => (i.zero, i.size, i.bytes)) = some (some (.string ⟨#[]⟩), 1, 16) := by kernel_rfl
/-- The slice v, of the call's own memory from block base on, holds the texts l. -/
structure OwnS (w : World) (base : Nat) (v : Value) (l : List ByteArray) : Prop where
  row : w.ownsRow base 9 1 v l.length (l.map Value.string)
  small : ∀ s ∈ l, s.size ≤ maxLen
theorem OwnS.nil (w : World) (base : Nat) : OwnS w base (.slice none 0 0) [] := ⟨World.ownsRow_nil _ _ _ _, by simp⟩
theorem OwnS.block {w : World} {base g : Nat} {v : Value} {l : List ByteArray} (h : OwnS w base v l) (hv : v.ownBlock = some g) : base ≤ g ∧ g < w.heap.size := by
  rcases h.row.2 with ⟨rfl, hn⟩ | ⟨g', cap, cur, rfl, hbg, hg, -⟩
  · cases hv
  · injection hv with hv
    subst hv
    exact ⟨hbg, (Array.getElem?_eq_some_iff.1 hg).1⟩
theorem OwnS.mod {S : Nat → Prop} {w w' : World} {base : Nat} {v : Value} {l : List ByteArray} (h : OwnS w base v l) (n : Mod S w w') (hs : ∀ k, v.ownBlock = some k → ¬ S k) : OwnS w' base v l := by
  refine ⟨?_, h.small⟩
  rcases h.row.2 with ⟨rfl, hn⟩ | ⟨g, cap, cur, rfl, hbg, hg, r⟩
  · exact ⟨h.row.1, .inl ⟨rfl, hn⟩⟩
  · have hlt := (Array.getElem?_eq_some_iff.1 hg).1
    exact ⟨h.row.1, .inr ⟨g, cap, cur, rfl, hbg, (n.block g hlt (hs g rfl)).trans hg, r⟩⟩
theorem OwnS.new {w w' : World} {base : Nat} {v : Value} {l : List ByteArray} (h : OwnS w base v l) (n : New w w') : OwnS w' base v l := h.mod n (fun _ _ x => x)
theorem OwnS.form {w : World} {base : Nat} {v : Value} {l : List ByteArray} (h : OwnS w base v l) : ∃ a c, v = .slice a l.length c := by
  rcases h.row.2 with ⟨rfl, hn⟩ | ⟨g, cap, cur, rfl, hbg, hg, hnc, hcm, hcs, htake⟩
  · have : l = [] := List.eq_nil_of_length_eq_zero hn
    subst this
    exact ⟨none, 0, rfl⟩
  · exact ⟨some ⟨g, 0, none⟩, cap, rfl⟩
theorem ownS_of {w : World} {base : Nat} {v : Value} {l : List ByteArray} {s : ByteArray} (hl : ∀ s ∈ l, s.size ≤ maxLen) (hs : s.size ≤ maxLen) (h : w.ownsRow base 9 1 v (l.length + 1) (l.map Value.string ++ [.string s])) : OwnS w base v (l ++ [s]) := by
  refine ⟨by rw [List.length_append, List.map_append]; exact h, fun x hx => ?_⟩
  rcases List.mem_append.1 hx with q | q
  · exact hl x q
  · simp only [List.mem_singleton] at q
    rw [q]
    exact hs
theorem mod_grownS {w w' : World} {v : Value} (g : w.grownBy w' v.ownBlock) : Mod (fun k => v.ownBlock = some k) w w' :=
  ⟨g.os, g.tape, g.output, g.size, fun k hk hx => g.block k hk (fun q => hx q.symm)⟩
/-- text: one byte at least, 200 at most. -/
def textM (x : ByteArray) : Bool := decide (1 ≤ x.size) && decide (x.size ≤ 200)
theorem text_any (x : ByteArray) (w : World) : Calls Tryz.prog 32 #[.string x] w fun e w' => e = .returned (.bool (textM x)) ∧ w = w' := by
  unfold textM
  by_cases h1 : 1 ≤ x.size
  · have h1I : (1 : Int) ≤ (x.size : Int) := by omega
    by_cases h2 : x.size ≤ 200
    · have h2I : (x.size : Int) ≤ 200 := by omega
      rw [decide_eq_true h1, decide_eq_true h2]
      clear h1 h2
      go_enter Tryz.func32, Tryz.ntmps32
      go_wp2
      go_ret
      exact ⟨rfl, rfl⟩
    · have h2I : ¬ (x.size : Int) ≤ 200 := by omega
      rw [decide_eq_true h1, decide_eq_false h2]
      clear h1 h2
      go_enter Tryz.func32, Tryz.ntmps32
      go_wp2
      go_ret
      exact ⟨rfl, rfl⟩
  · have h1I : ¬ (1 : Int) ≤ (x.size : Int) := by omega
    rw [decide_eq_false h1]
    clear h1
    go_enter Tryz.func32, Tryz.ntmps32
    go_wp2
    go_ret
    exact ⟨rfl, rfl⟩
theorem added_no (base : Nat) (v : Value) (l : List ByteArray) (x : ByteArray) (w : World) (h : OwnS w base v l) (hl : 10 ≤ l.length) :
    Calls Tryz.prog 73 #[v, .string x, .int .i64 10] w fun e w' => e = .panicked (toldM 4) ∧ w = w' := by
  obtain ⟨a, c, rfl⟩ := h.form
  have hI : ¬ (l.length : Int) < 10 := by omega
  have hd : decide ((l.length : Int) < 10) = false := decide_eq_false hI
  clear h hl
  go_enter Tryz.func73, Tryz.ntmps73
  go_wp2_with fail
  refine (need_no 4 _).mono ?_
  rintro e w1 ⟨rfl, rfl⟩
  go_wp2
  exact ⟨rfl, rfl, rfl⟩
set_option maxHeartbeats 1000000 in
theorem added_yes (base : Nat) (v : Value) (l : List ByteArray) (x : ByteArray) (w : World) (h : OwnS w base v l) (hl : l.length < 10) (hx : x.size ≤ maxLen) (hb : base ≤ w.heap.size) :
    Calls Tryz.prog 73 #[v, .string x, .int .i64 10] w fun e w' => ∃ o, e = .returned o ∧ OwnS w' base o (l ++ [x]) ∧ Mod (fun k => v.ownBlock = some k) w w' ∧ (o.ownBlock = v.ownBlock ∨ ∃ g, o.ownBlock = some g ∧ w.heap.size ≤ g) := by
  obtain ⟨i0, hi, hz0, hz1, hz2⟩ := info_parts info_strM
  have HO := hid h
  have HSM := hid h.small
  have HX := hid hx
  obtain ⟨a, c, rfl⟩ := h.form
  obtain ⟨V, hV⟩ : ∃ V : Value, V = .slice a l.length c := ⟨_, rfl⟩
  have HVV := hid hV
  have hI : (l.length : Int) < 10 := by omega
  have hd : decide ((l.length : Int) < 10) = true := decide_eq_true hI
  clear h hl hx hV
  go_enter Tryz.func73, Tryz.ntmps73
  go_wp2_with fail
  refine (need_yes 4 _).mono ?_
  rintro e w1 ⟨rfl, rfl⟩
  go_wp2_with (at_builtin; refine wpList_append_own_at _ rfl _ _ 23 rfl base 9 i0 _ 1 16 Tryz.underlying23 hi hz0 hz1 hz2 rfl (by decide) _ l.length (l.map Value.string) rfl ?ow ⟨w.heap.size, 0, none⟩ 1 1 [.string x] rfl rfl ?hn ?h1 ?h63 ?hby ?hba ?_)
  case ow => exact (HO.out.new ((Mod.refl _ _).alloc _)).row
  case hn => exact cell_one_new _ _ _
  case h1 => intro u hu; simp at hu; subst hu; rfl
  case h63 => unfold maxLen; omega
  case hby => omega
  case hba => simp; omega
  intro o' w' r' g' _ hat
  have O' := hid (ownS_of HSM.out HX.out r')
  have N' := hid ((((Mod.refl (fun _ => False) w).alloc (.cells #[.string x] 9)).mono (S' := fun k => (Value.slice a l.length c).ownBlock = some k) (fun _ _ q => q.elim)).trans (mod_grownS g'))
  have HA := hid hat
  clear r' g' hat
  go_wp2
  go_ret
  refine ⟨_, rfl, O'.out, N'.out, ?_⟩
  rcases HA.out with q | q
  · exact .inl q
  · exact .inr ⟨_, q, by simp⟩
end Go.Proofs.YtbgmkplpolgebaaGreatDoor
