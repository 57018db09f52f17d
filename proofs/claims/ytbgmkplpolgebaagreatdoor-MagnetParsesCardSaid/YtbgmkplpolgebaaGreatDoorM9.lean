/-
  Several texts in one, in their build order. The walks of loose and Unescape (the reference). Condition: the text is small.
-/
import Derived.Test.YtbgmkplpolgebaaGreatDoorM8
namespace Go.Proofs.YtbgmkplpolgebaaGreatDoor
set_option linter.unusedSimpArgs false
set_option linter.unusedVariables false
open Go.RowKit Go.Shelf

def lsB (s : ByteArray) : ByteArray := ⟨((loose s.data.toList).getD []).toArray⟩
def lsO (s : ByteArray) : Bool := (loose s.data.toList).isSome
theorem ls_none {s : ByteArray} (h : loose s.data.toList = none) : lsB s = ⟨#[]⟩ ∧ lsO s = false := by unfold lsB lsO; rw [h]; exact ⟨rfl, rfl⟩
theorem ls_some {s : ByteArray} {t : List UInt8} (h : loose s.data.toList = some t) : lsB s = ⟨t.toArray⟩ ∧ lsO s = true := by unfold lsB lsO; rw [h]; exact ⟨rfl, rfl⟩
theorem drop_at (s : ByteArray) {k : Nat} (h : k < s.size) : s.data.toList.drop k = s[k] :: s.data.toList.drop (k + 1) := by
  rw [List.drop_eq_getElem_cons (by rw [Array.length_toList]; exact h)]
  rfl
theorem nibL_some {c : UInt8} {n : Nat} (h : nibC c = some n) : nibI (lowC c) = (n : Int) := by unfold nibI; unfold nibC at h; rw [h]
theorem nibL_none {c : UInt8} (h : nibC c = none) : nibI (lowC c) = -1 := by unfold nibI; unfold nibC at h; rw [h]
theorem hexC_none {a b : UInt8} (h : nibC a = none ∨ nibC b = none) : hexC [a, b] = none := by
  rw [hexC_two]
  rcases h with h | h
  · rw [h]
  · rw [h]; cases nibC a <;> rfl
theorem hexC_some {a b : UInt8} {x y : Nat} (h1 : nibC a = some x) (h2 : nibC b = some y) : hexC [a, b] = some [UInt8.ofNat (16 * x + y)] := by rw [hexC_two, h1, h2]
theorem ret_ls {b b' : ByteArray} {o o' : Bool} (h1 : b = b') (h2 : o = o') : Ending.returned (.tuple #[.string b, .bool o]) = .returned (.tuple #[.string b', .bool o']) := by rw [h1, h2]
set_option maxRecDepth 100000 in
set_option maxHeartbeats 8000000 in
theorem loose_any (s : ByteArray) (w : World) (hs : s.size ≤ 4000000) : Calls Tryz.prog 85 #[.string s] w fun e w' => e = .returned (.tuple #[.string (lsB s), .bool (lsO s)]) ∧ New w w' := by
  have hlen : s.data.toList.length = s.size := by rw [Array.length_toList]; rfl
  obtain ⟨i0, hi, hz0, hz1, hz2⟩ := info_parts info_byte
  have HO1 : Hid (OwnY (w.alloc (.cells #[] 5)) w.heap.size (.slice (some ⟨w.heap.size, 0, none⟩) 0 0) []) := hid (ownY_none (Blk.new w _ _))
  have HN1 : Hid (New w (w.alloc (.cells #[] 5))) := hid ((Mod.refl _ _).alloc _)
  go_enter Tryz.func85, Tryz.ntmps85
  go_wp2_with fail
  go_loopw [4, 5] (fun v i wr => ∃ (k : Nat) (o : Value) (acc : List UInt8), o = v ∧ i = .int .i64 k ∧ k ≤ s.size ∧ OwnY wr w.heap.size o acc ∧ acc.length ≤ k ∧ (loose (s.data.toList.drop k)).map (acc ++ ·) = loose s.data.toList ∧ New w wr) (fun _ i _ => s.size - (intOf i).toNat)
  case atStart => exact ⟨0, _, [], rfl, rfl, by omega, HO1.out, by simp, by rw [List.drop_zero]; cases loose s.data.toList <;> rfl, HN1.out⟩
  case round =>
    clear HO1 HN1
    obtain ⟨k, o, acc, rfl, rfl, hk, ho, hac, hl, hn⟩ := hrel
    have HO := hid ho; have HN := hid hn; have HL := hid hl
    have hsz := hn.size
    clear ho hn hl
    by_cases hlt : k < s.size
    · have hltI : (k : Int) < (s.size : Int) := by omega
      have HD := hid (drop_at s hlt)
      rw [HD.out] at HL
      have hk1 : IntKind.i64.wrap ((k : Int) + 1) = (k : Int) + 1 := by rw [IntKind.wrap_i64]; omega
      have hk2 : IntKind.i64.wrap ((k : Int) + 2) = (k : Int) + 2 := by rw [IntKind.wrap_i64]; omega
      by_cases hc : s[k] = 37
      · have e0 : ((s[k].toNat : Int) != 37) = false := by rw [hc]; rfl
        have e1 : ((s[k].toNat : Int) == 37) = true := by rw [hc]; rfl
        rw [hc] at HL
        clear hc
        by_cases h2 : s.size ≤ k + 2
        · have HNO := hid (ls_none (loose_short HL.out (by rw [List.length_drop, hlen]; omega)))
          have hge : decide ((k : Int) + 2 ≥ (s.size : Int)) = true := decide_eq_true (by omega)
          have hge2 : (s.size : Int) ≤ (k : Int) + 2 := by omega
          go_wp2_with fail
          go_ret2
          exact ⟨ret_ls HNO.out.1.symm HNO.out.2.symm, HN.out⟩
        · have hge : decide ((k : Int) + 2 ≥ (s.size : Int)) = false := decide_eq_false (by omega)
          have hge2 : ¬ (s.size : Int) ≤ (k : Int) + 2 := by omega
          have ha : k + 1 < s.size := by omega
          have hb : k + 2 < s.size := by omega
          have HD1 := hid (drop_at s ha); have HD2 := hid (drop_at s hb)
          rw [HD1.out, HD2.out] at HL
          have haI : (k : Int) + 1 < (s.size : Int) := by omega
          have hbI : (k : Int) + 2 < (s.size : Int) := by omega
          have na : ((k : Int) + 1).toNat = k + 1 := by omega
          have nb : ((k : Int) + 2).toNat = k + 2 := by omega
          have pa : (0 : Int) ≤ (k : Int) + 1 := by omega
          have pb : (0 : Int) ≤ (k : Int) + 2 := by omega
          cases hna : nibC s[k + 1] with
          | none =>
            have eA := nibL_none hna
            have HNO := hid (ls_none (loose_bad HL.out (hexC_none (.inl hna))))
            clear hna
            go_wp2_with fail
            refine wp_region_held_drew (S := (fun w' => True)) (by kernel_rfl) trivial (fun hHeld => ?_)
            refine tk (v := ?_) 0 ?_ ?_
            rotate_left
            · intro w hSw
              (try dsimp only at hSw)
              first | (go_simp; done) | (go_simp; with_reducible rfl) | with_reducible rfl
            simp only [Act.put, List.setIfInBounds_toArray, List.set_cons_zero, List.set_cons_succ]
            refine tk (v := ?_) 1 ?_ ?_
            rotate_left
            · intro w hSw
              (try dsimp only at hSw)
              first | (go_simp; done) | (go_simp; with_reducible rfl) | with_reducible rfl
            simp only [Act.put, List.setIfInBounds_toArray, List.set_cons_zero, List.set_cons_succ]
            refine tk (v := ?_) 2 ?_ ?_
            rotate_left
            · intro w hSw
              (try dsimp only at hSw)
              first | (go_simp; done) | (go_simp; with_reducible rfl) | with_reducible rfl
            simp only [Act.put, List.setIfInBounds_toArray, List.set_cons_zero, List.set_cons_succ]
            refine tk (v := ?_) 3 ?_ ?_
            rotate_left
            · intro w hSw
              (try dsimp only at hSw)
              first | (go_simp; done) | (go_simp; with_reducible rfl) | with_reducible rfl
            simp only [Act.put, List.setIfInBounds_toArray, List.set_cons_zero, List.set_cons_succ]
            refine tk (v := ?_) 5 ?_ ?_
            rotate_left
            · intro w hSw
              (try dsimp only at hSw)
              first | (go_simp; done) | (go_simp; with_reducible rfl) | with_reducible rfl
            simp only [Act.put, List.setIfInBounds_toArray, List.set_cons_zero, List.set_cons_succ]
            refine tk (v := ?_) 6 ?_ ?_
            rotate_left
            · intro w hSw
              (try dsimp only at hSw)
              first | (go_simp; done) | (go_simp; with_reducible rfl) | with_reducible rfl
            simp only [Act.put, List.setIfInBounds_toArray, List.set_cons_zero, List.set_cons_succ]
            refine tk (v := ?_) 7 ?_ ?_
            rotate_left
            · intro w hSw
              (try dsimp only at hSw)
              first | (go_simp; done) | (go_simp; with_reducible rfl) | with_reducible rfl
            simp only [Act.put, List.setIfInBounds_toArray, List.set_cons_zero, List.set_cons_succ]
            refine tk (v := ?_) 8 ?_ ?_
            rotate_left
            · intro w hSw
              (try dsimp only at hSw)
              first | (go_simp; done) | (go_simp; with_reducible rfl) | with_reducible rfl
            simp only [Act.put, List.setIfInBounds_toArray, List.set_cons_zero, List.set_cons_succ]
            refine wpAnyH_ready (rs := [4]) (by kernel_rfl) (by simp) ?_
            refine AllReadyH.cons (by simp only [List.getElem?_toArray, List.getElem?_cons_succ, List.getElem?_cons_zero]; rfl) (fun K hK => ?_) AllReadyH.nil
            go_simp
            (go_at_call 136; refine (rnibble_any s[k + 1] _).mono ?_; rintro e w3 ⟨rfl, rfl⟩)
            try dsimp only
            refine hK.out _ _ trivial (fun hHeld4 => ?_)
            clear hK K hHeld4
            try simp only [Act.put, List.setIfInBounds_toArray, List.set_cons_zero, List.set_cons_succ]
            refine wpAnyH_ready (rs := [9]) (by kernel_rfl) (by simp) ?_
            refine AllReadyH.cons (by simp only [List.getElem?_toArray, List.getElem?_cons_succ, List.getElem?_cons_zero]; rfl) (fun K hK => ?_) AllReadyH.nil
            go_simp
            (go_at_call 136; refine (rnibble_any s[k + 2] _).mono ?_; rintro e w3 ⟨rfl, rfl⟩)
            try dsimp only
            refine hK.out _ _ trivial (fun hHeld9 => ?_)
            clear hK K hHeld9
            try simp only [Act.put, List.setIfInBounds_toArray, List.set_cons_zero, List.set_cons_succ]
            refine tk (v := ?_) 10 ?_ ?_
            rotate_left
            · intro w hSw
              (try dsimp only at hSw)
              first | (go_simp; done) | (go_simp; with_reducible rfl) | with_reducible rfl
            simp only [Act.put, List.setIfInBounds_toArray, List.set_cons_zero, List.set_cons_succ]
            refine tk (v := ?_) 11 ?_ ?_
            rotate_left
            · intro w hSw
              (try dsimp only at hSw)
              first | (go_simp; done) | (go_simp; with_reducible rfl) | with_reducible rfl
            simp only [Act.put, List.setIfInBounds_toArray, List.set_cons_zero, List.set_cons_succ]
            refine wpAnyH_done (by kernel_rfl) ?_ _
            go_wp2_with fail
            go_ret2
            exact ⟨ret_ls HNO.out.1.symm HNO.out.2.symm, HN.out.drew⟩
          | some x =>
            have hx16 := nibC_lt hna
            have eA := nibL_some hna
            cases hnb : nibC s[k + 2] with
            | none =>
              have eB := nibL_none hnb
              have HNO := hid (ls_none (loose_bad HL.out (hexC_none (.inr hnb))))
              have hx0 : ¬ (x : Int) < 0 := by omega
              have hx1 : decide ((x : Int) < 0) = false := decide_eq_false hx0
              clear hna hnb
              go_wp2_with fail
              refine wp_region_held_drew (S := (fun w' => True)) (by kernel_rfl) trivial (fun hHeld => ?_)
              refine tk (v := ?_) 0 ?_ ?_
              rotate_left
              · intro w hSw
                (try dsimp only at hSw)
                first | (go_simp; done) | (go_simp; with_reducible rfl) | with_reducible rfl
              simp only [Act.put, List.setIfInBounds_toArray, List.set_cons_zero, List.set_cons_succ]
              refine tk (v := ?_) 1 ?_ ?_
              rotate_left
              · intro w hSw
                (try dsimp only at hSw)
                first | (go_simp; done) | (go_simp; with_reducible rfl) | with_reducible rfl
              simp only [Act.put, List.setIfInBounds_toArray, List.set_cons_zero, List.set_cons_succ]
              refine tk (v := ?_) 2 ?_ ?_
              rotate_left
              · intro w hSw
                (try dsimp only at hSw)
                first | (go_simp; done) | (go_simp; with_reducible rfl) | with_reducible rfl
              simp only [Act.put, List.setIfInBounds_toArray, List.set_cons_zero, List.set_cons_succ]
              refine tk (v := ?_) 3 ?_ ?_
              rotate_left
              · intro w hSw
                (try dsimp only at hSw)
                first | (go_simp; done) | (go_simp; with_reducible rfl) | with_reducible rfl
              simp only [Act.put, List.setIfInBounds_toArray, List.set_cons_zero, List.set_cons_succ]
              refine tk (v := ?_) 5 ?_ ?_
              rotate_left
              · intro w hSw
                (try dsimp only at hSw)
                first | (go_simp; done) | (go_simp; with_reducible rfl) | with_reducible rfl
              simp only [Act.put, List.setIfInBounds_toArray, List.set_cons_zero, List.set_cons_succ]
              refine tk (v := ?_) 6 ?_ ?_
              rotate_left
              · intro w hSw
                (try dsimp only at hSw)
                first | (go_simp; done) | (go_simp; with_reducible rfl) | with_reducible rfl
              simp only [Act.put, List.setIfInBounds_toArray, List.set_cons_zero, List.set_cons_succ]
              refine tk (v := ?_) 7 ?_ ?_
              rotate_left
              · intro w hSw
                (try dsimp only at hSw)
                first | (go_simp; done) | (go_simp; with_reducible rfl) | with_reducible rfl
              simp only [Act.put, List.setIfInBounds_toArray, List.set_cons_zero, List.set_cons_succ]
              refine tk (v := ?_) 8 ?_ ?_
              rotate_left
              · intro w hSw
                (try dsimp only at hSw)
                first | (go_simp; done) | (go_simp; with_reducible rfl) | with_reducible rfl
              simp only [Act.put, List.setIfInBounds_toArray, List.set_cons_zero, List.set_cons_succ]
              refine wpAnyH_ready (rs := [4]) (by kernel_rfl) (by simp) ?_
              refine AllReadyH.cons (by simp only [List.getElem?_toArray, List.getElem?_cons_succ, List.getElem?_cons_zero]; rfl) (fun K hK => ?_) AllReadyH.nil
              go_simp
              (go_at_call 136; refine (rnibble_any s[k + 1] _).mono ?_; rintro e w3 ⟨rfl, rfl⟩)
              try dsimp only
              refine hK.out _ _ trivial (fun hHeld4 => ?_)
              clear hK K hHeld4
              try simp only [Act.put, List.setIfInBounds_toArray, List.set_cons_zero, List.set_cons_succ]
              refine wpAnyH_ready (rs := [9]) (by kernel_rfl) (by simp) ?_
              refine AllReadyH.cons (by simp only [List.getElem?_toArray, List.getElem?_cons_succ, List.getElem?_cons_zero]; rfl) (fun K hK => ?_) AllReadyH.nil
              go_simp
              (go_at_call 136; refine (rnibble_any s[k + 2] _).mono ?_; rintro e w3 ⟨rfl, rfl⟩)
              try dsimp only
              refine hK.out _ _ trivial (fun hHeld9 => ?_)
              clear hK K hHeld9
              try simp only [Act.put, List.setIfInBounds_toArray, List.set_cons_zero, List.set_cons_succ]
              refine tk (v := ?_) 10 ?_ ?_
              rotate_left
              · intro w hSw
                (try dsimp only at hSw)
                first | (go_simp; done) | (go_simp; with_reducible rfl) | with_reducible rfl
              simp only [Act.put, List.setIfInBounds_toArray, List.set_cons_zero, List.set_cons_succ]
              refine tk (v := ?_) 11 ?_ ?_
              rotate_left
              · intro w hSw
                (try dsimp only at hSw)
                first | (go_simp; done) | (go_simp; with_reducible rfl) | with_reducible rfl
              simp only [Act.put, List.setIfInBounds_toArray, List.set_cons_zero, List.set_cons_succ]
              refine wpAnyH_done (by kernel_rfl) ?_ _
              go_wp2_with fail
              go_ret2
              exact ⟨ret_ls HNO.out.1.symm HNO.out.2.symm, HN.out.drew⟩
            | some y =>
              have hy16 := nibC_lt hnb
              have eB := nibL_some hnb
              have HST := hid (loose_step3 HL.out (hexC_some hna hnb))
              have hx0 : ¬ (x : Int) < 0 := by omega
              have hx1 : decide ((x : Int) < 0) = false := decide_eq_false hx0
              have hy0 : ¬ (y : Int) < 0 := by omega
              have hy1 : decide ((y : Int) < 0) = false := decide_eq_false hy0
              have hm1 : IntKind.i64.wrap (16 * (x : Int)) = 16 * (x : Int) := by rw [IntKind.wrap_i64]; omega
              have hm2 : IntKind.i64.wrap (16 * (x : Int) + (y : Int)) = 16 * (x : Int) + (y : Int) := by rw [IntKind.wrap_i64]; omega
              have hm3 : IntKind.u8.wrap (16 * (x : Int) + (y : Int)) = ((UInt8.ofNat (16 * x + y)).toNat : Int) := by
                rw [IntWalk.u8_in _ (by omega), UInt8.toNat_ofNat']
                omega
              obtain ⟨D, hD⟩ : ∃ D, D = UInt8.ofNat (16 * x + y) := ⟨_, rfl⟩
              rw [← hD] at hm3 HST
              have hk3 : IntKind.i64.wrap ((k : Int) + 2 + 1) = (k : Int) + 2 + 1 := by rw [IntKind.wrap_i64]; omega
              clear hna hnb hD
              go_wp2_with fail
              refine wp_region_held_drew (S := (fun w' => True)) (by kernel_rfl) trivial (fun hHeld => ?_)
              refine tk (v := ?_) 0 ?_ ?_
              rotate_left
              · intro w hSw
                (try dsimp only at hSw)
                first | (go_simp; done) | (go_simp; with_reducible rfl) | with_reducible rfl
              simp only [Act.put, List.setIfInBounds_toArray, List.set_cons_zero, List.set_cons_succ]
              refine tk (v := ?_) 1 ?_ ?_
              rotate_left
              · intro w hSw
                (try dsimp only at hSw)
                first | (go_simp; done) | (go_simp; with_reducible rfl) | with_reducible rfl
              simp only [Act.put, List.setIfInBounds_toArray, List.set_cons_zero, List.set_cons_succ]
              refine tk (v := ?_) 2 ?_ ?_
              rotate_left
              · intro w hSw
                (try dsimp only at hSw)
                first | (go_simp; done) | (go_simp; with_reducible rfl) | with_reducible rfl
              simp only [Act.put, List.setIfInBounds_toArray, List.set_cons_zero, List.set_cons_succ]
              refine tk (v := ?_) 3 ?_ ?_
              rotate_left
              · intro w hSw
                (try dsimp only at hSw)
                first | (go_simp; done) | (go_simp; with_reducible rfl) | with_reducible rfl
              simp only [Act.put, List.setIfInBounds_toArray, List.set_cons_zero, List.set_cons_succ]
              refine tk (v := ?_) 5 ?_ ?_
              rotate_left
              · intro w hSw
                (try dsimp only at hSw)
                first | (go_simp; done) | (go_simp; with_reducible rfl) | with_reducible rfl
              simp only [Act.put, List.setIfInBounds_toArray, List.set_cons_zero, List.set_cons_succ]
              refine tk (v := ?_) 6 ?_ ?_
              rotate_left
              · intro w hSw
                (try dsimp only at hSw)
                first | (go_simp; done) | (go_simp; with_reducible rfl) | with_reducible rfl
              simp only [Act.put, List.setIfInBounds_toArray, List.set_cons_zero, List.set_cons_succ]
              refine tk (v := ?_) 7 ?_ ?_
              rotate_left
              · intro w hSw
                (try dsimp only at hSw)
                first | (go_simp; done) | (go_simp; with_reducible rfl) | with_reducible rfl
              simp only [Act.put, List.setIfInBounds_toArray, List.set_cons_zero, List.set_cons_succ]
              refine tk (v := ?_) 8 ?_ ?_
              rotate_left
              · intro w hSw
                (try dsimp only at hSw)
                first | (go_simp; done) | (go_simp; with_reducible rfl) | with_reducible rfl
              simp only [Act.put, List.setIfInBounds_toArray, List.set_cons_zero, List.set_cons_succ]
              refine wpAnyH_ready (rs := [4]) (by kernel_rfl) (by simp) ?_
              refine AllReadyH.cons (by simp only [List.getElem?_toArray, List.getElem?_cons_succ, List.getElem?_cons_zero]; rfl) (fun K hK => ?_) AllReadyH.nil
              go_simp
              (go_at_call 136; refine (rnibble_any s[k + 1] _).mono ?_; rintro e w3 ⟨rfl, rfl⟩)
              try dsimp only
              refine hK.out _ _ trivial (fun hHeld4 => ?_)
              clear hK K hHeld4
              try simp only [Act.put, List.setIfInBounds_toArray, List.set_cons_zero, List.set_cons_succ]
              refine wpAnyH_ready (rs := [9]) (by kernel_rfl) (by simp) ?_
              refine AllReadyH.cons (by simp only [List.getElem?_toArray, List.getElem?_cons_succ, List.getElem?_cons_zero]; rfl) (fun K hK => ?_) AllReadyH.nil
              go_simp
              (go_at_call 136; refine (rnibble_any s[k + 2] _).mono ?_; rintro e w3 ⟨rfl, rfl⟩)
              try dsimp only
              refine hK.out _ _ trivial (fun hHeld9 => ?_)
              clear hK K hHeld9
              try simp only [Act.put, List.setIfInBounds_toArray, List.set_cons_zero, List.set_cons_succ]
              refine tk (v := ?_) 10 ?_ ?_
              rotate_left
              · intro w hSw
                (try dsimp only at hSw)
                first | (go_simp; done) | (go_simp; with_reducible rfl) | with_reducible rfl
              simp only [Act.put, List.setIfInBounds_toArray, List.set_cons_zero, List.set_cons_succ]
              refine tk (v := ?_) 11 ?_ ?_
              rotate_left
              · intro w hSw
                (try dsimp only at hSw)
                first | (go_simp; done) | (go_simp; with_reducible rfl) | with_reducible rfl
              simp only [Act.put, List.setIfInBounds_toArray, List.set_cons_zero, List.set_cons_succ]
              refine wpAnyH_done (by kernel_rfl) ?_ _
              go_wp2_with (at_builtin; refine wpList_append_own_at _ rfl _ _ 42 rfl w.heap.size 5 i0 _ 1 1 Tryz.underlying42 hi hz0 hz1 hz2 rfl (by decide) _ acc.length (byV acc) rfl ?ow ⟨wr.heap.size, 0, none⟩ 1 1 [.int .u8 (D.toNat : Int)] rfl rfl ?hn ?h1 ?h63 ?hby ?hba ?_)
              case ow => exact HO.out.new (((Mod.refl _ _).drew).alloc _)
              case hn =>
                intro j u hj
                rw [show (⟨wr.heap.size, 0, none⟩ : Addr).add j = ⟨wr.heap.size, 0 + j, none⟩ by unfold Addr.add; split <;> simp_all]
                match j, hj with
                | 0, hj => simp at hj; subst hj; exact (Blk.newAt (by simp)).cellv 0 rfl
              case h1 => intro u hu; simp at hu; subst hu; rfl
              case h63 => unfold maxLen; omega
              case hby => omega
              case hba => simp; omega
              intro o' w' r' g' _ _
              have O' := hid (ownY_of (l := acc) [D] r')
              have N' := hid (new_grownY (HO.out.new (((Mod.refl _ _).drew).alloc _)) (Nat.le_refl _) (HN.out.drew.alloc _) g')
              clear r' g'
              go_wp2_with fail
              exact ⟨⟨k + 3, _, acc ++ [D], rfl, by simp; omega, by omega, O'.out, by simp; omega, HST.out, N'.out⟩, by simp [intOf]; omega⟩
      · have e0 : ((s[k].toNat : Int) != 37) = true := by
          rw [bne_iff_ne]
          intro q
          exact hc (UInt8.toNat_inj.1 (by show s[k].toNat = 37; omega))
        have e1 : ((s[k].toNat : Int) == 37) = false := by rw [beq_eq_false_iff_ne]; rw [bne_iff_ne] at e0; exact e0
        have HST := hid (loose_step HL.out hc)
        clear hc
        go_wp2_with (at_builtin; refine wpList_append_own_at _ rfl _ _ 42 rfl w.heap.size 5 i0 _ 1 1 Tryz.underlying42 hi hz0 hz1 hz2 rfl (by decide) _ acc.length (byV acc) rfl ?ow ⟨wr.heap.size, 0, none⟩ 1 1 [.int .u8 (s[k].toNat : Int)] rfl rfl ?hn ?h1 ?h63 ?hby ?hba ?_)
        case ow => exact HO.out.new ((Mod.refl _ _).alloc _)
        case hn =>
          intro j u hj
          rw [show (⟨wr.heap.size, 0, none⟩ : Addr).add j = ⟨wr.heap.size, 0 + j, none⟩ by unfold Addr.add; split <;> simp_all]
          match j, hj with
          | 0, hj => simp at hj; subst hj; exact (Blk.newAt (by simp)).cellv 0 rfl
        case h1 => intro u hu; simp at hu; subst hu; rfl
        case h63 => unfold maxLen; omega
        case hby => omega
        case hba => simp; omega
        intro o' w' r' g' _ _
        have O' := hid (ownY_of (l := acc) [s[k]] r')
        have N' := hid (new_grownY (HO.out.new ((Mod.refl _ _).alloc _)) (Nat.le_refl _) (HN.out.alloc _) g')
        clear r' g'
        go_wp2_with fail
        exact ⟨⟨k + 1, _, acc ++ [s[k]], rfl, by simp, by omega, O'.out, by simp; omega, HST.out, N'.out⟩, by simp [intOf]; omega⟩
    · have hkk : k = s.size := by omega
      have HSM := hid (ls_some (s := s) (t := acc) (by
        rw [← HL.out, List.drop_of_length_le (by omega), loose_nil]
        simp))
      have HT := hid (ownY_text HO.out)
      have hcv := HT.out
      have hltI : ¬ (k : Int) < (s.size : Int) := by omega
      clear hkk
      go_wp2_with fail
      go_ret2
      exact ⟨ret_ls HSM.out.1.symm HSM.out.2.symm, HN.out⟩
end Go.Proofs.YtbgmkplpolgebaaGreatDoor
