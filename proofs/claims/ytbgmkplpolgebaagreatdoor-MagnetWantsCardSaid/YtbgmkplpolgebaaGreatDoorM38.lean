/-
  Several texts in one, in their build order. The bits of either (package bits: joined, Or). Conditions: the fields are right; at most 4096 bits.
-/
import Derived.Test.YtbgmkplpolgebaaGreatDoorM37
import Derived.Test.YtbgmkplpolgebaaGreatDoorM5
namespace Go.Proofs.YtbgmkplpolgebaaGreatDoor
set_option linter.unusedSimpArgs false
set_option linter.unusedVariables false
open Go.RowKit Go.Shelf

theorem wp_region_heldP {P : Program} {ops : Array Oper} {Q : Exit → Act → World → Prop} {id : Nat} {a : Act} {w : World} (S : World → Prop) (hm : P.follows .mixedOrders = true) (hS : S w.drew)
    (h : S w.drew → wpAnyH P .any ops (noPanic Q) S ops.size (Array.replicate ops.size false) a w.drew) : (Code.region id ops true).wp P Q a w :=
  wp_mono (wp_region_held_drew (S := S) hm hS h) (fun e a w q => by cases e <;> first | exact q | exact q.elim)
def mixL (S T : List UInt8) (k : Nat) : List UInt8 := (orL S T).take k ++ S.drop k
theorem mix_len {S T : List UInt8} (h : S.length = T.length) {k : Nat} (hk : k ≤ S.length) : (mixL S T k).length = S.length := by
  unfold mixL
  rw [List.length_append, List.length_take, List.length_drop, orL_len h]
  omega
theorem mix_form {S T : List UInt8} (h : S.length = T.length) {k : Nat} (hk : k < S.length) : mixL S T k = (orL S T).take k ++ S[k] :: S.drop (k + 1) := by
  unfold mixL
  rw [List.drop_eq_getElem_cons hk]
theorem mix_get {S T : List UInt8} (h : S.length = T.length) {k : Nat} (hk : k < S.length) : (mixL S T k)[k]'(by rw [mix_len h (by omega)]; exact hk) = S[k] := by
  have e := mix_form h hk
  have hl : ((orL S T).take k).length = k := by rw [List.length_take, orL_len h]; omega
  have : (mixL S T k)[k]? = some S[k] := by rw [e, List.getElem?_append_right (by omega), hl, Nat.sub_self]; rfl
  have h2 := List.getElem?_eq_getElem (l := mixL S T k) (i := k) (by rw [mix_len h (by omega)]; exact hk)
  rw [h2] at this
  exact Option.some.inj this
theorem mix_set {S T : List UInt8} (h : S.length = T.length) {k : Nat} (hk : k < S.length) : (mixL S T k).set k (S[k] ||| T[k]'(by omega)) = mixL S T (k + 1) := by
  have hl : ((orL S T).take k).length = k := by rw [List.length_take, orL_len h]; omega
  rw [mix_form h hk, List.set_append_right _ _ (by omega), hl, Nat.sub_self]
  unfold mixL
  rw [lst_next (l := orL S T) (by rw [orL_len h]; exact hk), orL_get h hk, List.append_assoc]
  rfl
set_option maxRecDepth 100000 in
set_option maxHeartbeats 8000000 in
theorem bjoined_any (n : Nat) (s t : ByteArray) (w : World) (h : FieldOf n s.data.toList) (k : FieldOf n t.data.toList) (hn : n ≤ 4096) :
    Calls Tryz.prog 102 #[.int .i64 n, .string s, .string t, .int .i64 1] w fun e w' => e = .returned (.tuple #[.string ⟨(orL s.data.toList t.data.toList).toArray⟩, .int .i64 0]) ∧ New w w' := by
  have hlen : s.data.toList.length = s.size := by rw [Array.length_toList]; rfl
  have hlet : t.data.toList.length = t.size := by rw [Array.length_toList]; rfl
  have hl := h.len; have hlk := k.len
  have hST : s.data.toList.length = t.data.toList.length := hl.trans hlk.symm
  have hss : s.size ≤ 600 := by omega
  have hsz : t.size = s.size := by omega
  have HOP := hid (fun a W (q : W.cell? ⟨a, 0, none⟩ = some (.string s)) (q1 : W.cell? ⟨a, 1, none⟩ = some (.string t)) => bopen_two n s t a 2 W h k hn q q1 (Nat.le_refl _) (by unfold maxLen; omega))
  have hwa := ways_at
  have HSZ := hid hsz
  obtain ⟨S, hS⟩ : ∃ S, S = s.data.toList := ⟨_, rfl⟩
  obtain ⟨T, hT⟩ : ∃ T, T = t.data.toList := ⟨_, rfl⟩
  have HS := hid hS; have HT := hid hT
  rw [← hS] at hST hlen ⊢
  rw [← hT] at hST hlet ⊢
  have hTl : T.length = s.size := by omega
  clear h k hl hlk hS hT hlet hsz
  go_enter_defers Tryz.func102, Tryz.ntmps102
  go_wp2_with fail
  have BS := Blk.newAt (w := w.alloc (.cells #[.int .i64 0] 28)) (b := w.heap.size + 1) (cs := #[.string s, .string t]) (t := 9) (by simp)
  refine (HOP.out _ _ (BS.cellv 0 rfl) (BS.cellv 1 rfl)).mono ?_
  rintro e w1 ⟨v, rfl, ⟨G, cap, A, ca, B, cb, rfl, h1, h2, h3, h4, h5, h6, h7, h8, h9, h10, h11, h12, h13⟩, n1⟩
  have N1 : Hid (New w w1) := hid ((((Mod.refl _ w).alloc (.cells #[.int .i64 0] 28)).alloc (.cells #[.string s, .string t] 9) : New w _).trans n1)
  have E1 : Hid (Blk w1 w.heap.size #[.int .i64 0] 28) := hid (New.blk n1 ((Blk.new _ _ _).alloc _))
  rw [HSZ.out] at h7
  rw [← HS.out] at h8
  rw [← HT.out] at h9
  have HBA := hid h8; have HBB := hid h9
  have HAw : Hid (w.heap.size + 2 ≤ A) := hid (by simpa using h10)
  have HAB := hid h11; have HGA := hid h12
  unfold maxLen at h2
  clear h8 h9 h10 h11 h12 h13 n1 BS HOP
  go_wp2_with fail
  refine (ways_any _).mono ?_
  rintro e w2 ⟨rfl, n2⟩
  have N2 := hid (N1.out.trans n2)
  have E2 := hid (New.blk n2 E1.out)
  have BA2 := hid (HBA.out.new n2); have BB2 := hid (HBB.out.new n2)
  have G1 := hid (New.cellv n2 h5); have G3 := hid (New.cellv n2 h7)
  have g1 := G1.out; have g3 := G3.out
  have HGl := hid (Nat.lt_of_lt_of_le h3 n2.size)
  clear n2 h3 h4 h5 h6 h7
  unfold waysV at hwa ⊢
  go_wp2_with fail
  clear g1 g3
  go_loopw [27] (fun i wr => ∃ k : Nat, i = .int .i64 k ∧ k ≤ s.size ∧ ByAt wr A (mixL S T k) ∧ Mod (fun j => j = A) w2 wr) (fun i _ => s.size - (intOf i).toNat)
  case atStart => exact ⟨0, rfl, by omega, by unfold mixL; rw [List.take_zero, List.drop_zero, List.nil_append]; exact BA2.out, Mod.refl _ _⟩
  case round =>
    obtain ⟨k, rfl, hk, hby, hm⟩ := hrel
    have HBY := hid hby; have HM := hid hm
    have g1 : wr.cell? ⟨G, 1, none⟩ = some (.slice (some ⟨A, 0, none⟩) s.size ca) := hm.cellv G1.out HGA.out
    by_cases hlt : k < s.size
    · have hkS : k < S.length := by omega
      have hkT : k < T.length := by omega
      have ca0 := hby.cell (i := k) (by rw [mix_len hST (by omega)]; exact hkS)
      rw [mix_get hST hkS] at ca0
      have caf := hby.frz (i := k) (by rw [mix_len hST (by omega)]; exact hkS)
      have cal := hby.lt
      have cb0 := (BB2.out.mod hm (by have := HAB.out; omega)).cell hkT
      have HST := hid (mix_set hST hkS)
      have HSET := hid (fun b => hby.set (i := k) (by rw [mix_len hST (by omega)]; exact hkS) b)
      obtain ⟨x, hx⟩ : ∃ x, x = S[k] := ⟨_, rfl⟩
      obtain ⟨y, hy⟩ : ∃ y, y = T[k] := ⟨_, rfl⟩
      rw [← hx] at ca0 HST
      rw [← hy] at cb0 HST
      have gs : (wr.drew.setCell ⟨A, k, none⟩ (.int .u8 ((x ||| y).toNat : Int))).cell? ⟨G, 1, none⟩ = some (.slice (some ⟨A, 0, none⟩) s.size ca) := Mod.cellv (((Mod.refl (fun j => j = A) wr).drew).set ⟨A, k, none⟩ _ (.inl rfl)) g1 HGA.out
      clear hx hy hby hm
      go_wp2_with fail
      refine wp_region_heldP (fun w' => w'.cell? ⟨G, 1, none⟩ = some (.slice (some ⟨A, 0, none⟩) s.size ca)) (by kernel_rfl) g1 (fun hHeld => ?_)
      refine tk (v := ?_) 0 ?_ ?_
      rotate_left
      · intro w hSw
        (try dsimp only at hSw)
        first | (go_simp; done) | (go_simp; with_reducible rfl) | with_reducible rfl
      simp only [Act.put, List.setIfInBounds_toArray, List.set_cons_zero, List.set_cons_succ]
      refine tk (v := ?_) 1 ?_ ?_
      rotate_left
      · intro w hSw
        (try dsimp only at hSw)
        first | (go_simp; done) | (go_simp; with_reducible rfl) | with_reducible rfl
      simp only [Act.put, List.setIfInBounds_toArray, List.set_cons_zero, List.set_cons_succ]
      refine tk (v := ?_) 2 ?_ ?_
      rotate_left
      · intro w hSw
        (try dsimp only at hSw)
        first | (go_simp; done) | (go_simp; with_reducible rfl) | with_reducible rfl
      simp only [Act.put, List.setIfInBounds_toArray, List.set_cons_zero, List.set_cons_succ]
      refine tk (v := ?_) 3 ?_ ?_
      rotate_left
      · intro w hSw
        (try dsimp only at hSw)
        first | (go_simp; done) | (go_simp; with_reducible rfl) | with_reducible rfl
      simp only [Act.put, List.setIfInBounds_toArray, List.set_cons_zero, List.set_cons_succ]
      refine tk (v := ?_) 4 ?_ ?_
      rotate_left
      · intro w hSw
        (try dsimp only at hSw)
        first | (go_simp; done) | (go_simp; with_reducible rfl) | with_reducible rfl
      simp only [Act.put, List.setIfInBounds_toArray, List.set_cons_zero, List.set_cons_succ]
      refine tk (v := ?_) 5 ?_ ?_
      rotate_left
      · intro w hSw
        (try dsimp only at hSw)
        first | (go_simp; done) | (go_simp; with_reducible rfl) | with_reducible rfl
      simp only [Act.put, List.setIfInBounds_toArray, List.set_cons_zero, List.set_cons_succ]
      refine tk (v := ?_) 6 ?_ ?_
      rotate_left
      · intro w hSw
        (try dsimp only at hSw)
        first | (go_simp; done) | (go_simp; with_reducible rfl) | with_reducible rfl
      simp only [Act.put, List.setIfInBounds_toArray, List.set_cons_zero, List.set_cons_succ]
      refine tk (v := ?_) 7 ?_ ?_
      rotate_left
      · intro w hSw
        (try dsimp only at hSw)
        first | (go_simp; done) | (go_simp; with_reducible rfl) | with_reducible rfl
      simp only [Act.put, List.setIfInBounds_toArray, List.set_cons_zero, List.set_cons_succ]
      refine tk (v := ?_) 8 ?_ ?_
      rotate_left
      · intro w hSw
        (try dsimp only at hSw)
        first | (go_simp; done) | (go_simp; with_reducible rfl) | with_reducible rfl
      simp only [Act.put, List.setIfInBounds_toArray, List.set_cons_zero, List.set_cons_succ]
      refine tk (v := ?_) 9 ?_ ?_
      rotate_left
      · intro w hSw
        (try dsimp only at hSw)
        first | (go_simp; done) | (go_simp; with_reducible rfl) | with_reducible rfl
      simp only [Act.put, List.setIfInBounds_toArray, List.set_cons_zero, List.set_cons_succ]
      refine tk (v := ?_) 10 ?_ ?_
      rotate_left
      · intro w hSw
        (try dsimp only at hSw)
        first | (go_simp; done) | (go_simp; with_reducible rfl) | with_reducible rfl
      simp only [Act.put, List.setIfInBounds_toArray, List.set_cons_zero, List.set_cons_succ]
      refine tk (v := ?_) 11 ?_ ?_
      rotate_left
      · intro w hSw
        (try dsimp only at hSw)
        first | (go_simp; done) | (go_simp; with_reducible rfl) | with_reducible rfl
      simp only [Act.put, List.setIfInBounds_toArray, List.set_cons_zero, List.set_cons_succ]
      refine tk (v := ?_) 13 ?_ ?_
      rotate_left
      · intro w hSw
        (try dsimp only at hSw)
        first | (go_simp; done) | (go_simp; with_reducible rfl) | with_reducible rfl
      simp only [Act.put, List.setIfInBounds_toArray, List.set_cons_zero, List.set_cons_succ]
      refine wpAnyH_ready (rs := [12]) (by kernel_rfl) (by simp) ?_
      refine AllReadyH.cons (by simp only [List.getElem?_toArray, List.getElem?_cons_succ, List.getElem?_cons_zero]; rfl) (fun K hK => ?_) AllReadyH.nil
      go_simp
      refine hK.out _ _ g1 (fun hHeld12 => ?_)
      clear hK K
      try simp only [Act.put, List.setIfInBounds_toArray, List.set_cons_zero, List.set_cons_succ]
      refine wpAnyH_ready (rs := [14]) (by kernel_rfl) (by simp) ?_
      refine AllReadyH.cons rfl (fun K hK => ?_) AllReadyH.nil
      go_simp
      (go_at_call 174; refine (bor_any x y _).mono ?_; rintro e w3 ⟨rfl, rfl⟩)
      try dsimp only
      refine hK.out _ _ g1 (fun hHeld14 => ?_)
      clear hK K
      try simp only [Act.put, List.setIfInBounds_toArray, List.set_cons_zero, List.set_cons_succ]
      refine tk (v := ?_) 15 ?_ ?_
      rotate_left
      · intro w hSw
        (try dsimp only at hSw)
        first | (go_simp; done) | (go_simp; with_reducible rfl) | with_reducible rfl
      simp only [Act.put, List.setIfInBounds_toArray, List.set_cons_zero, List.set_cons_succ]
      refine wpAnyH_ready (rs := [16]) (by kernel_rfl) (by simp) ?_
      refine AllReadyH.cons (by simp only [List.getElem?_toArray, List.getElem?_cons_succ, List.getElem?_cons_zero]; rfl) (fun K hK => ?_) AllReadyH.nil
      go_simp
      refine hK.out _ _ gs (fun hHeld16 => ?_)
      clear hK K
      try simp only [Act.put, List.setIfInBounds_toArray, List.set_cons_zero, List.set_cons_succ]
      refine wpAnyH_done (by kernel_rfl) (noPanic_ok ?_) _
      go_wp2
      refine ⟨⟨k + 1, by simp, by omega, ?_, ?_⟩, by simp [intOf]; omega⟩
      · rw [← HST.out]
        exact (HBY.out.mod (Mod.refl (fun j => False) wr).drew (fun q => q)).set (by rw [mix_len hST (by omega)]; exact hkS) (x ||| y)
      · exact HM.out.drew.set ⟨A, k, none⟩ _ (.inl rfl)
    · have hkk : k = S.length := by omega
      have HT2 := hid (show ByAt wr A (orL S T) by
        have e : mixL S T k = orL S T := by
          unfold mixL
          rw [List.take_of_length_le (by rw [orL_len hST]; omega), List.drop_of_length_le (by omega), List.append_nil]
        rw [← e]
        exact hby)
      have ht := HT2.out.text s.size ca (by rw [orL_len hST]; omega)
      have E3 := hid (hm.blk E2.out (by have := HAw.out; omega))
      have e0 := E3.out.cellv 0 rfl; have el := E3.out.lt; have ef := E3.out.frz 0
      have N3 := hid (N2.out.trans' hm (fun j h1 h2 => by have := HAw.out; omega))
      clear hby hm hkk
      go_wp2
      refine leaves_cons (f := 98) (args := #[.pointer (some ⟨w.heap.size, 0, none⟩)]) (by simp) (by simp [go_sem]) ?_
      refine (bcaught_idle ⟨w.heap.size, 0, none⟩ _).mono ?_
      rintro e u' w4 ⟨rfl, rfl, rfl⟩
      have q1 : (wr.setCell ⟨w.heap.size, 0, none⟩ (.int .i64 0)).cell? ⟨w.heap.size, 0, none⟩ = some (.int .i64 0) := (E3.out.set 0 (.int .i64 0)).cellv 0 rfl
      refine ⟨.tuple #[.string ⟨(orL S T).toArray⟩, .int .i64 0], by simp [results, Tryz.results102, go_sem, q1], rfl, ?_⟩
      exact Mod.set N3.out _ _ (.inr (Nat.le_refl _))
theorem bOr_any (n : Nat) (s t : ByteArray) (w : World) (h : FieldOf n s.data.toList) (k : FieldOf n t.data.toList) (hn : n ≤ 4096) :
    Calls Tryz.prog 40 #[.int .i64 n, .string s, .string t] w fun e w' => e = .returned (.tuple #[.string (mkB (orL s.data.toList t.data.toList)), .int .i64 0]) ∧ New w w' := by
  have HJ := hid (bjoined_any n s t w h k hn)
  obtain ⟨Z, hZ⟩ : ∃ Z : ByteArray, Z = ⟨(orL s.data.toList t.data.toList).toArray⟩ := ⟨_, rfl⟩
  rw [show mkB (orL s.data.toList t.data.toList) = Z from hZ.symm]
  rw [← hZ] at HJ
  clear h k hZ
  go_enter Tryz.func40, Tryz.ntmps40
  go_wp2_with fail
  refine HJ.out.mono ?_
  rintro e w1 ⟨rfl, n1⟩
  have N1 := hid n1
  clear n1
  go_wp2
  go_ret2
  exact ⟨rfl, N1.out⟩
end Go.Proofs.YtbgmkplpolgebaaGreatDoor
