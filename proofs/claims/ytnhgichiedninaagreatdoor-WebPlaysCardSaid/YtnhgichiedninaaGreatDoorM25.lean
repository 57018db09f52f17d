/-
  Several texts in one, in their build order. The walk of (*check).file: files that are no pads: the beginnings of paths; the sets turned. Conditions: the check's two sets and the file lie as told. The walk of (*check).file: files that are no pads, where none of their paths was met: the sets are turned. Conditions: the check's two sets and the file lie as told.
-/
import Derived.Test.YtnhgichiedninaaGreatDoorM24
namespace Go.Proofs.YtnhgichiedninaaGreatDoor
set_option linter.unusedSimpArgs false
set_option linter.unusedVariables false
open Go.RowKit

theorem heads_any {p M : List ByteArray} {k : Nat} : (heads p k).any (hasB M) = true ↔ ∃ j, 1 ≤ j ∧ j ≤ k ∧ hasB M (joinB (p.take j)) = true := by
  rw [List.any_eq_true]
  constructor
  · rintro ⟨s, hs, h⟩
    obtain ⟨j, a, b, rfl⟩ := (heads_mem _ _ _).1 hs
    exact ⟨j, a, b, h⟩
  · rintro ⟨j, a, b, h⟩
    exact ⟨_, (heads_mem _ _ _).2 ⟨j, a, b, rfl⟩, h⟩
theorem take_path {p : List ByteArray} (h1 : 1 ≤ p.length) (h2 : p.length ≤ 8) (h3 : p.all partOk = true) (pa : Option Addr) (pc : Nat) (k : Nat) (hk : 1 ≤ k) (hk2 : k ≤ p.length) (w : World) (h : StrsAt w pa pc p) :
    Calls Tryz.prog 90 #[.slice pa k pc] w fun e w' => e = .returned (.string (joinB (p.take k))) ∧ New w w' := by
  have hl : (p.take k).length = k := by simp; omega
  have hs := join_small (p := p.take k) (by omega) (by omega) (by
    rw [List.all_eq_true] at h3 ⊢
    exact fun x hx => h3 x (List.mem_of_mem_take hx))
  have := path_any pa pc (p.take k) w (h.take k) (by omega) (by omega)
  rw [hl] at this
  exact this

set_option maxRecDepth 100000 in
set_option maxHeartbeats 2000000 in
theorem file_dup3 (b bm ba : Nat) (i last : Nat) (tot : Int) (pa : Option Addr) (pc : Nat) (f : FileV) (M A : List ByteArray) (w : World) (h : Ask w b bm ba pa pc f tot M A) (h1 : 1 ≤ f.path.length) (h2 : f.path.length ≤ 8) (h3 : f.path.all partOk = true) (hp : f.pad = false) (h4 : ∃ p0, f.path.head? = some p0 ∧ (p0.toList == [46, 112, 97, 100]) = false) (h5 : decide (f.len < 0) = false) (h6 : decide (65536 < f.len) = false)
    (h7 : hasB M (joinB f.path) = false) (h8 : hasB A (joinB f.path) = false) (h9 : (heads f.path (f.path.length - 1)).any (hasB M) = true) :
    Calls Tryz.prog 140 #[.pointer (some ⟨b, 0, none⟩), .int .i64 i, .int .i64 last, fileV pa pc f] w (Fin w b bm ba i f tot M A (some 6)) := by
  have hsz := join_small h1 h2 h3
  have HPA := hid (fun (w : World) (h : StrsAt w pa pc f.path) => path_any pa pc f.path w h (by omega) (by omega))
  clear hsz
  have HTP := hid (fun k a b w h => take_path h1 h2 h3 pa pc k a b w h)
  have HH := hid (heads_any.1 h9)
  clear h9
  have HC := hid (fun (w : World) (h : StrsAt w pa pc f.path) => (h3 ▸ contains_any pa pc f.path w h : Calls Tryz.prog 31 #[.slice pa f.path.length pc, .func (.func 161) #[] #[]] w fun e w' => e = .returned (.bool (!true)) ∧ w = w'))
  simp only [Bool.not_true, Bool.not_false] at HC
  clear h3
  obtain ⟨p0, hp0, h4⟩ := h4
  obtain ⟨pb, po, rfl, hpb, hpc⟩ := h.sp.get (by omega)
  have hc9 : w.cell? ⟨pb, po, none⟩ = some (.string p0) := by
    have := hpc 0 (by omega)
    rw [List.head?_eq_getElem?, List.getElem?_eq_getElem (by omega)] at hp0
    simp at hp0
    rw [← hp0]
    exact this
  have HC9 := hid (fun (w1 : World) (n : New (boxes w i (some ⟨pb, po, none⟩) pc f) w1) => And.intro (n.cellv ((boxes_new w i (some ⟨pb, po, none⟩) pc f).cellv hc9)) (Nat.lt_of_lt_of_le hpb ((boxes_new w i (some ⟨pb, po, none⟩) pc f).trans n).size))
  clear hp0 hpc hc9
  have K0 := hid (h.start i)
  have HT := hid (h.tab.new (boxes_new w i (some ⟨pb, po, none⟩) pc f))
  have HL := hid h.len
  have HS := hid (itoa_size h.len.1 h.len.2)
  have hr := h.sp.room; have hr2 := h.sp.cap
  have hblt := h.xc.lt
  unfold maxLen at hr2
  have hmf : ∀ (fn : Fn) (first cap : Array Value) (w : World), (Instr.makeFunc fn first cap).run Tryz.prog w = .ok (.func fn first cap) w := fun _ _ _ _ => rfl
  clear h
  have HP : Hid (f.pad = false) := hid hp
  clear hp
  go_enter Tryz.func140, Tryz.ntmps140
  go_wp2_with (first | (go_at_call 71; refine (itoa_any _ HL.out.1 HL.out.2 _ HT.out).mono ?_; rintro e w1 ⟨rfl, n1⟩; have K1 := hid (Ck.new K0.out n1); have P1 := hid (strs_pad w1 f.len HS.out); obtain ⟨c9, c10⟩ := HC9.out w1 n1; clear n1; obtain ⟨c0, c1, c2, c3, c4, c5, c6, c7, c8, cy, cz⟩ := K1.out.cells; rw [HP.out] at c2) | (go_at_call 31; refine (HC.out _ ?_).mono ?_; (focus (repeat (first | with_reducible exact K1.out.sp | with_reducible apply StrsAt.alloc | with_reducible apply StrsAt.drew))); rintro e w9 ⟨rfl, rfl⟩) | (go_at_call 90; refine (HPA.out _ ?_).mono ?_; (focus (repeat (first | with_reducible exact K1.out.sp | with_reducible apply StrsAt.alloc | with_reducible apply StrsAt.drew))); rintro e w3 ⟨rfl, n3⟩; have K3 := hid (Ck.new (K1.out.alloc _) n3); clear n3; obtain ⟨e0, e1, e2, e3, e4, e5, e6, e7, e8, ey, ez⟩ := K3.out.cells; rw [HP.out] at e2; have lk1 := K3.out.sm.lookup Tryz.underlying197 Tryz.underlying9 (zero_bool w3) (joinB f.path); have lk2 := K3.out.sa.lookup Tryz.underlying197 Tryz.underlying9 (zero_bool w3) (joinB f.path)) | (go_at_call_of 160 (Value.bool false); refine (fail_pass w.heap.size i _ 3 _ ?_).mono ?_; (focus (repeat (first | with_reducible exact K3.out.xi | with_reducible apply Blk.alloc | with_reducible apply Blk.drew | with_reducible apply Blk.drewN | (with_reducible apply Blk.other; · first | (simp; done) | (simp; omega) | omega)))); rintro e w9 ⟨rfl, rfl⟩) | (go_at_call_of 160 (Value.bool false); refine (fail_pass w.heap.size i _ 3 _ ?_).mono ?_; (focus (repeat (first | with_reducible exact K1.out.xi | with_reducible apply Blk.alloc | with_reducible apply Blk.drew | with_reducible apply Blk.drewN | (with_reducible apply Blk.other; · first | (simp; done) | (simp; omega) | omega)))); rintro e w9 ⟨rfl, rfl⟩))
  go_loopw [12] (fun i' wr => ∃ k : Nat, i' = .int .i64 k ∧ 1 ≤ k ∧ k ≤ f.path.length ∧ (∀ j, 1 ≤ j → j < k → hasB M (joinB (f.path.take j)) = false) ∧ Ck w wr w.heap.size (w.heap.size + 1) b bm ba i tot (some ⟨pb, po, none⟩) pc f M A) (fun i' _ => f.path.length - (intOf i').toNat)
  case atStart => exact ⟨1, rfl, by omega, by omega, by intros; omega, K3.out⟩
  case round =>
    obtain ⟨k, rfl, hk, hk2, hb, K⟩ := hrel
    have HB := hid hb
    have K4 := hid K
    clear K hb
    obtain ⟨g0, g1, g2, g3, g4, g5, g6, g7, g8, gy, gz⟩ := K4.out.cells
    rw [HP.out] at g2
    have hkpc : k ≤ pc := by omega
    by_cases hlt : k < f.path.length
    · cases hd : hasB M (joinB (f.path.take k)) with
      | true =>
        go_wp2_with fail
        refine wp_region_held_drew (S := fun w' => w'.cell? ⟨b, 0, none⟩ = some (.map (some bm)) ∧ w'.cell? ⟨w.heap.size + 1, 0, none⟩ = some (.slice (some ⟨pb, po, none⟩) f.path.length pc)) (by kernel_rfl) ⟨g3, g0⟩ (fun hHeld => ?_)
        refine wpAnyH_take (i := 0) (v := ?_) rfl (by kernel_rfl) (by kernel_rfl) (by kernel_rfl) (fun _ _ _ h => h) (Or.inl ⟨by rfl, ?_⟩) (by assumption) ?_
        rotate_left
        · intro w hSw
          (try dsimp only at hSw)
          first | (go_simp; done) | (go_simp; with_reducible rfl) | with_reducible rfl
        simp only [Act.put, List.setIfInBounds_toArray, List.set_cons_zero, List.set_cons_succ]
        refine wpAnyH_take (i := 1) (v := ?_) rfl (by kernel_rfl) (by kernel_rfl) (by kernel_rfl) (fun _ _ _ h => h) (Or.inl ⟨by rfl, ?_⟩) (by assumption) ?_
        rotate_left
        · intro w hSw
          (try dsimp only at hSw)
          first | (go_simp; done) | (go_simp; with_reducible rfl) | with_reducible rfl
        simp only [Act.put, List.setIfInBounds_toArray, List.set_cons_zero, List.set_cons_succ]
        refine wpAnyH_take (i := 2) (v := ?_) rfl (by kernel_rfl) (by kernel_rfl) (by kernel_rfl) (fun _ _ _ h => h) (Or.inl ⟨by rfl, ?_⟩) (by assumption) ?_
        rotate_left
        · intro w hSw
          (try dsimp only at hSw)
          first | (go_simp; done) | (go_simp; with_reducible rfl) | with_reducible rfl
        simp only [Act.put, List.setIfInBounds_toArray, List.set_cons_zero, List.set_cons_succ]
        refine wpAnyH_take (i := 3) (v := ?_) rfl (by kernel_rfl) (by kernel_rfl) (by kernel_rfl) (fun _ _ _ h => h) (Or.inl ⟨by rfl, ?_⟩) (by assumption) ?_
        rotate_left
        · intro w hSw
          (try dsimp only at hSw)
          first | (go_simp; done) | (go_simp; with_reducible rfl) | with_reducible rfl
        simp only [Act.put, List.setIfInBounds_toArray, List.set_cons_zero, List.set_cons_succ]
        refine wpAnyH_take (i := 4) (v := ?_) rfl (by kernel_rfl) (by kernel_rfl) (by kernel_rfl) (fun _ _ _ h => h) (Or.inl ⟨by rfl, ?_⟩) (by assumption) ?_
        rotate_left
        · intro w hSw
          (try dsimp only at hSw)
          first | (go_simp; done) | (go_simp; with_reducible rfl) | with_reducible rfl
        simp only [Act.put, List.setIfInBounds_toArray, List.set_cons_zero, List.set_cons_succ]
        refine wpAnyH_take (i := 5) (v := ?_) rfl (by kernel_rfl) (by kernel_rfl) (by kernel_rfl) (fun _ _ _ h => h) (Or.inl ⟨by rfl, ?_⟩) (by assumption) ?_
        rotate_left
        · intro w hSw
          (try dsimp only at hSw)
          first | (go_simp; done) | (go_simp; with_reducible rfl) | with_reducible rfl
        simp only [Act.put, List.setIfInBounds_toArray, List.set_cons_zero, List.set_cons_succ]
        refine wpAnyH_take (i := 6) (v := ?_) rfl (by kernel_rfl) (by kernel_rfl) (by kernel_rfl) (fun _ _ _ h => h) (Or.inl ⟨by rfl, ?_⟩) (by assumption) ?_
        rotate_left
        · intro w hSw
          (try dsimp only at hSw)
          first | (go_simp; done) | (go_simp; with_reducible rfl) | with_reducible rfl
        simp only [Act.put, List.setIfInBounds_toArray, List.set_cons_zero, List.set_cons_succ]
        refine wpAnyH_take (i := 7) (v := ?_) rfl (by kernel_rfl) (by kernel_rfl) (by kernel_rfl) (fun _ _ _ h => h) (Or.inl ⟨by rfl, ?_⟩) (by assumption) ?_
        rotate_left
        · intro w hSw
          (try dsimp only at hSw)
          first | (go_simp; done) | (go_simp; with_reducible rfl) | with_reducible rfl
        simp only [Act.put, List.setIfInBounds_toArray, List.set_cons_zero, List.set_cons_succ]
        refine wpAnyH_ready (rs := [8]) (by kernel_rfl) (by simp) ?_
        refine AllReadyH.cons rfl (fun K hK => ?_) AllReadyH.nil
        go_simp
        refine hK.out _ _ ⟨g3, g0⟩ (fun hHeld2 => ?_)
        clear hK K
        try simp only [Act.put, List.setIfInBounds_toArray, List.set_cons_zero, List.set_cons_succ]
        refine wpAnyH_ready (rs := [9]) (by kernel_rfl) (by simp) ?_
        refine AllReadyH.cons rfl (fun K hK => ?_) AllReadyH.nil
        go_simp
        (go_at_call 90; refine (HTP.out k (by omega) (by omega) _ ?_).mono ?_; (focus (repeat (first | with_reducible exact K4.out.sp | with_reducible apply StrsAt.alloc | with_reducible apply StrsAt.drew))); rintro e w5 ⟨rfl, n5⟩; have K5 : Hid (Ck w w5 w.heap.size (w.heap.size + 1) b bm ba i tot (some ⟨pb, po, none⟩) pc f M A) := (hid (Ck.new (by repeat (first | with_reducible exact K4.out | with_reducible apply Ck.alloc | with_reducible apply Ck.drew | with_reducible apply Ck.drewN)) n5)); clear n5; obtain ⟨q0, q1, q2, q3, q4, q5, q6, q7, q8, qy, qz⟩ := K5.out.cells; rw [HP.out] at q2; have lk5 := K5.out.sm.lookup Tryz.underlying197 Tryz.underlying9 (zero_bool w5) (joinB (f.path.take k)))
        try dsimp only
        refine hK.out _ _ ⟨q3, q0⟩ (fun hHeld3 => ?_)
        clear hK K
        try simp only [Act.put, List.setIfInBounds_toArray, List.set_cons_zero, List.set_cons_succ]
        refine wpAnyH_ready (rs := [10]) (by kernel_rfl) (by simp) ?_
        refine AllReadyH.cons rfl (fun K hK => ?_) AllReadyH.nil
        go_simp
        refine hK.out _ _ ⟨q3, q0⟩ (fun hHeld4 => ?_)
        clear hK K
        try simp only [Act.put, List.setIfInBounds_toArray, List.set_cons_zero, List.set_cons_succ]
        refine wpAnyH_ready (rs := [11]) (by kernel_rfl) (by simp) ?_
        refine AllReadyH.cons rfl (fun K hK => ?_) AllReadyH.nil
        go_simp
        (go_at_call_of 160 (Value.bool true); refine (fail_raise w.heap.size i _ 3 _ ?_).mono ?_; (focus (repeat (first | with_reducible exact K5.out.xi | with_reducible apply Blk.alloc | with_reducible apply Blk.drew | with_reducible apply Blk.drewN | (with_reducible apply Blk.other; · first | (simp; done) | (simp; omega) | omega)))); rintro e w9 ⟨rfl, rfl⟩; first | exact ⟨rfl, rfl, K5.out.mod⟩ | (dsimp only; exact ⟨rfl, rfl, K5.out.mod⟩))
      | false =>
        go_wp2_with fail
        go_region_held3 (fun w' => w'.cell? ⟨b, 0, none⟩ = some (.map (some bm)) ∧ w'.cell? ⟨w.heap.size + 1, 0, none⟩ = some (.slice (some ⟨pb, po, none⟩) f.path.length pc)) ((first | exact ⟨q3, q0⟩ | exact ⟨g3, g0⟩ | go_keep)) (first | (go_at_call 90; refine (HTP.out k (by omega) (by omega) _ ?_).mono ?_; (focus (repeat (first | with_reducible exact K4.out.sp | with_reducible apply StrsAt.alloc | with_reducible apply StrsAt.drew))); rintro e w5 ⟨rfl, n5⟩; have K5 : Hid (Ck w w5 w.heap.size (w.heap.size + 1) b bm ba i tot (some ⟨pb, po, none⟩) pc f M A) := (hid (Ck.new (by repeat (first | with_reducible exact K4.out | with_reducible apply Ck.alloc | with_reducible apply Ck.drew | with_reducible apply Ck.drewN)) n5)); clear n5; obtain ⟨q0, q1, q2, q3, q4, q5, q6, q7, q8, qy, qz⟩ := K5.out.cells; rw [HP.out] at q2; have lk5 := K5.out.sm.lookup Tryz.underlying197 Tryz.underlying9 (zero_bool w5) (joinB (f.path.take k))) | (go_at_call_of 160 (Value.bool false); refine (fail_pass w.heap.size i _ 3 _ ?_).mono ?_; (focus (repeat (first | with_reducible exact K5.out.xi | with_reducible apply Blk.alloc | with_reducible apply Blk.drew | with_reducible apply Blk.drewN | (with_reducible apply Blk.other; · first | (simp; done) | (simp; omega) | omega)))); rintro e w9 ⟨rfl, rfl⟩))
        go_wp2
        have HD := hid hd
        exact ⟨⟨k + 1, by simp, by omega, by omega, fun j j1 j2 => by rcases Nat.lt_succ_iff_lt_or_eq.1 j2 with h | h; exact HB.out j j1 h; subst h; exact HD.out, K5.out⟩, by simp [intOf]; omega⟩
    · exfalso
      obtain ⟨j, j1, j2, j3⟩ := HH.out
      rw [HB.out j j1 (by omega)] at j3
      cases j3
end Go.Proofs.YtnhgichiedninaaGreatDoor

namespace Go.Proofs.YtnhgichiedninaaGreatDoor
set_option linter.unusedSimpArgs false
set_option linter.unusedVariables false
open Go.RowKit

theorem heads_next (p : List ByteArray) (m : Nat) (A : List ByteArray) : joinB (p.take (m + 1)) :: ((heads p m).reverse ++ A) = (heads p (m + 1)).reverse ++ A := by
  have : heads p (m + 1) = heads p m ++ [joinB (p.take (m + 1))] := by
    simp [heads, List.range'_1_concat, Nat.add_comm]
  rw [this]
  simp

theorem heads_step (p : List ByteArray) {q : Nat} (h : 1 ≤ q) (A : List ByteArray) : joinB (p.take q) :: ((heads p (q - 1)).reverse ++ A) = (heads p (q + 1 - 1)).reverse ++ A := by
  obtain ⟨m, rfl⟩ : ∃ m, q = m + 1 := ⟨q - 1, by omega⟩
  exact heads_next p m A
set_option maxRecDepth 100000 in
set_option maxHeartbeats 4000000 in
theorem file_plain (b bm ba : Nat) (i last : Nat) (tot : Int) (pa : Option Addr) (pc : Nat) (f : FileV) (M A : List ByteArray) (w : World) (h : Ask w b bm ba pa pc f tot M A) (h1 : 1 ≤ f.path.length) (h2 : f.path.length ≤ 8) (h3 : f.path.all partOk = true) (hp : f.pad = false) (h4 : ∃ p0, f.path.head? = some p0 ∧ (p0.toList == [46, 112, 97, 100]) = false) (h5 : decide (f.len < 0) = false) (h6 : decide (65536 < f.len) = false)
    (h7 : hasB M (joinB f.path) = false) (h8 : hasB A (joinB f.path) = false) (h9 : (heads f.path (f.path.length - 1)).any (hasB M) = false)
    (h10 : 0 ≤ tot) (h11 : tot ≤ 65536) (h12 : 0 ≤ f.len) (h13 : f.len ≤ 65536) (r : Option Int) (h14 : (decide (65536 < tot + f.len) = true ∧ r = some 11) ∨ (decide (65536 < tot + f.len) = false ∧ r = none)) :
    Calls Tryz.prog 140 #[.pointer (some ⟨b, 0, none⟩), .int .i64 i, .int .i64 last, fileV pa pc f] w (Fin w b bm ba i f tot M A r) := by
  have hsz := join_small h1 h2 h3
  have HPA := hid (fun (w : World) (h : StrsAt w pa pc f.path) => path_any pa pc f.path w h (by omega) (by omega))
  clear hsz
  have HTP := hid (fun k a b w h => take_path h1 h2 h3 pa pc k a b w h)
  have HH := hid (fun j (a : 1 ≤ j) (c : j < f.path.length) => (show hasB M (joinB (f.path.take j)) = false by
    cases e : hasB M (joinB (f.path.take j)) with
    | false => rfl
    | true => rw [heads_any.2 ⟨j, a, by omega, e⟩] at h9; cases h9))
  have HR := hid h14
  clear h9 h14
  have HC := hid (fun (w : World) (h : StrsAt w pa pc f.path) => (h3 ▸ contains_any pa pc f.path w h : Calls Tryz.prog 31 #[.slice pa f.path.length pc, .func (.func 161) #[] #[]] w fun e w' => e = .returned (.bool (!true)) ∧ w = w'))
  simp only [Bool.not_true, Bool.not_false] at HC
  clear h3
  obtain ⟨p0, hp0, h4⟩ := h4
  obtain ⟨pb, po, rfl, hpb, hpc⟩ := h.sp.get (by omega)
  have hc9 : w.cell? ⟨pb, po, none⟩ = some (.string p0) := by
    have := hpc 0 (by omega)
    rw [List.head?_eq_getElem?, List.getElem?_eq_getElem (by omega)] at hp0
    simp at hp0
    rw [← hp0]
    exact this
  have HC9 := hid (fun (w1 : World) (n : New (boxes w i (some ⟨pb, po, none⟩) pc f) w1) => And.intro (n.cellv ((boxes_new w i (some ⟨pb, po, none⟩) pc f).cellv hc9)) (Nat.lt_of_lt_of_le hpb ((boxes_new w i (some ⟨pb, po, none⟩) pc f).trans n).size))
  clear hp0 hpc hc9
  have K0 := hid (h.start i)
  have HT := hid (h.tab.new (boxes_new w i (some ⟨pb, po, none⟩) pc f))
  have HL := hid h.len
  have HS := hid (itoa_size h.len.1 h.len.2)
  have hr := h.sp.room; have hr2 := h.sp.cap
  have hblt := h.xc.lt
  unfold maxLen at hr2
  have hmf : ∀ (fn : Fn) (first cap : Array Value) (w : World), (Instr.makeFunc fn first cap).run Tryz.prog w = .ok (.func fn first cap) w := fun _ _ _ _ => rfl
  clear h
  have HP : Hid (f.pad = false) := hid hp
  clear hp
  go_enter Tryz.func140, Tryz.ntmps140
  go_wp2_with (first | (go_at_call 71; refine (itoa_any _ HL.out.1 HL.out.2 _ HT.out).mono ?_; rintro e w1 ⟨rfl, n1⟩; have K1 := hid (Ck.new K0.out n1); have P1 := hid (strs_pad w1 f.len HS.out); obtain ⟨c9, c10⟩ := HC9.out w1 n1; clear n1; obtain ⟨c0, c1, c2, c3, c4, c5, c6, c7, c8, cy, cz⟩ := K1.out.cells; rw [HP.out] at c2) | (go_at_call 31; refine (HC.out _ ?_).mono ?_; (focus (repeat (first | with_reducible exact K1.out.sp | with_reducible apply StrsAt.alloc | with_reducible apply StrsAt.drew))); rintro e w9 ⟨rfl, rfl⟩) | (go_at_call 90; refine (HPA.out _ ?_).mono ?_; (focus (repeat (first | with_reducible exact K1.out.sp | with_reducible apply StrsAt.alloc | with_reducible apply StrsAt.drew))); rintro e w3 ⟨rfl, n3⟩; have K3 := hid (Ck.new (K1.out.alloc _) n3); clear n3; obtain ⟨e0, e1, e2, e3, e4, e5, e6, e7, e8, ey, ez⟩ := K3.out.cells; rw [HP.out] at e2; have lk1 := K3.out.sm.lookup Tryz.underlying197 Tryz.underlying9 (zero_bool w3) (joinB f.path); have lk2 := K3.out.sa.lookup Tryz.underlying197 Tryz.underlying9 (zero_bool w3) (joinB f.path)) | (go_at_call_of 160 (Value.bool false); refine (fail_pass w.heap.size i _ 3 _ ?_).mono ?_; (focus (repeat (first | with_reducible exact K3.out.xi | with_reducible apply Blk.alloc | with_reducible apply Blk.drew | with_reducible apply Blk.drewN | (with_reducible apply Blk.other; · first | (simp; done) | (simp; omega) | omega)))); rintro e w9 ⟨rfl, rfl⟩) | (go_at_call_of 160 (Value.bool false); refine (fail_pass w.heap.size i _ 3 _ ?_).mono ?_; (focus (repeat (first | with_reducible exact K1.out.xi | with_reducible apply Blk.alloc | with_reducible apply Blk.drew | with_reducible apply Blk.drewN | (with_reducible apply Blk.other; · first | (simp; done) | (simp; omega) | omega)))); rintro e w9 ⟨rfl, rfl⟩))
  go_loopw [12] (fun i' wr => ∃ k : Nat, i' = .int .i64 k ∧ 1 ≤ k ∧ k ≤ f.path.length ∧ Ck w wr w.heap.size (w.heap.size + 1) b bm ba i tot (some ⟨pb, po, none⟩) pc f M A) (fun i' _ => f.path.length - (intOf i').toNat)
  case atStart => exact ⟨1, rfl, by omega, by omega, K3.out⟩
  case round =>
    obtain ⟨k, rfl, hk, hk2, K⟩ := hrel
    have K4 := hid K
    clear K
    obtain ⟨g0, g1, g2, g3, g4, g5, g6, g7, g8, gy, gz⟩ := K4.out.cells
    rw [HP.out] at g2
    have hkpc : k ≤ pc := by omega
    by_cases hlt : k < f.path.length
    · have hd := HH.out k hk hlt
      go_wp2_with fail
      go_region_held3 (fun w' => w'.cell? ⟨b, 0, none⟩ = some (.map (some bm)) ∧ w'.cell? ⟨w.heap.size + 1, 0, none⟩ = some (.slice (some ⟨pb, po, none⟩) f.path.length pc)) ((first | exact ⟨q3, q0⟩ | exact ⟨g3, g0⟩ | go_keep)) (first | (go_at_call 90; refine (HTP.out k (by omega) (by omega) _ ?_).mono ?_; (focus (repeat (first | with_reducible exact K4.out.sp | with_reducible apply StrsAt.alloc | with_reducible apply StrsAt.drew))); rintro e w5 ⟨rfl, n5⟩; have K5 : Hid (Ck w w5 w.heap.size (w.heap.size + 1) b bm ba i tot (some ⟨pb, po, none⟩) pc f M A) := (hid (Ck.new (by repeat (first | with_reducible exact K4.out | with_reducible apply Ck.alloc | with_reducible apply Ck.drew | with_reducible apply Ck.drewN)) n5)); clear n5; obtain ⟨q0, q1, q2, q3, q4, q5, q6, q7, q8, qy, qz⟩ := K5.out.cells; rw [HP.out] at q2; have lk5 := K5.out.sm.lookup Tryz.underlying197 Tryz.underlying9 (zero_bool w5) (joinB (f.path.take k))) | (go_at_call_of 160 (Value.bool false); refine (fail_pass w.heap.size i _ 3 _ ?_).mono ?_; (focus (repeat (first | with_reducible exact K5.out.xi | with_reducible apply Blk.alloc | with_reducible apply Blk.drew | with_reducible apply Blk.drewN | (with_reducible apply Blk.other; · first | (simp; done) | (simp; omega) | omega)))); rintro e w9 ⟨rfl, rfl⟩))
      go_wp2
      exact ⟨⟨k + 1, by simp, by omega, by omega, K5.out⟩, by simp [intOf]; omega⟩
    · go_wp2_with (first | (at_mapUpdate; refine wpList_mapUpdate_set _ rfl _ _ _ 197 rfl 9 4 Tryz.underlying197 Tryz.underlying9 bm M rfl K4.out.sm _ rfl rfl ?_; intro w6 s6 m6; have K6 : Hid (Ck w w6 w.heap.size (w.heap.size + 1) b bm ba i tot (some ⟨pb, po, none⟩) pc f (joinB f.path :: M) (A)) := hid (Ck.put_m K4.out s6 m6); clear s6 m6; obtain ⟨i0, i1, i2, i3, i4, i5, i6, i7, i8, iy, iz⟩ := K6.out.cells; rw [HP.out] at i2))
      go_loopw [13] (fun i' wr' => ∃ q : Nat, i' = .int .i64 q ∧ 1 ≤ q ∧ q ≤ f.path.length ∧ Ck w wr' w.heap.size (w.heap.size + 1) b bm ba i tot (some ⟨pb, po, none⟩) pc f (joinB f.path :: M) ((heads f.path (q - 1)).reverse ++ A)) (fun i' _ => f.path.length - (intOf i').toNat)
      case atStart => exact ⟨1, rfl, by omega, by omega, by simpa [heads] using K6.out⟩
      case round =>
        obtain ⟨q, rfl, hm1, hm2, K⟩ := hrel
        have K7 := hid K
        clear K
        obtain ⟨j0, j1, j2, j3, j4, j5, j6, j7, j8, jy, jz⟩ := K7.out.cells
        rw [HP.out] at j2
        have hmpc : q ≤ pc := by omega
        by_cases hmt : q < f.path.length
        · go_wp2_with fail
          go_region_held3 (fun w' => w'.cell? ⟨b, 1, none⟩ = some (.map (some ba)) ∧ w'.cell? ⟨w.heap.size + 1, 0, none⟩ = some (.slice (some ⟨pb, po, none⟩) f.path.length pc)) ((first | exact ⟨l4, l0⟩ | exact ⟨r4, r0⟩ | exact ⟨j4, j0⟩ | go_keep)) (first | (go_at_call 90; refine (HTP.out q (by omega) (by omega) _ ?_).mono ?_; (focus (repeat (first | with_reducible exact K7.out.sp | with_reducible apply StrsAt.alloc | with_reducible apply StrsAt.drew))); rintro e w8 ⟨rfl, n8⟩; have K8 : Hid (Ck w w8 w.heap.size (w.heap.size + 1) b bm ba i tot (some ⟨pb, po, none⟩) pc f (joinB f.path :: M) ((heads f.path (q - 1)).reverse ++ A)) := (hid (Ck.new (by repeat (first | with_reducible exact K7.out | with_reducible apply Ck.alloc | with_reducible apply Ck.drew | with_reducible apply Ck.drewN)) n8)); clear n8; obtain ⟨r0, r1, r2, r3, r4, r5, r6, r7, r8, ry, rz⟩ := K8.out.cells; rw [HP.out] at r2; obtain ⟨w9, hup, s9, m9⟩ := K8.out.sa.update Tryz.underlying197 Tryz.underlying9 (joinB (f.path.take q)); have K9 : Hid (Ck w w9 w.heap.size (w.heap.size + 1) b bm ba i tot (some ⟨pb, po, none⟩) pc f (joinB f.path :: M) (joinB (f.path.take q) :: ((heads f.path (q - 1)).reverse ++ A))) := hid (Ck.put_a K8.out s9 m9); clear s9 m9; obtain ⟨l0, l1, l2, l3, l4, l5, l6, l7, l8, ly, lz⟩ := K9.out.cells; rw [HP.out] at l2))
          go_wp2
          rw [heads_step _ hm1] at K9
          exact ⟨⟨q + 1, by simp, by omega, by omega, K9.out⟩, by simp [intOf]; omega⟩
        · have hml : q = f.path.length := by omega
          go_wp2_with (first | (go_at_call_of 160 (Value.bool false); refine (fail_pass w.heap.size i _ 3 _ ?_).mono ?_; (focus (repeat (first | with_reducible exact K7.out.xi | with_reducible apply Blk.alloc | with_reducible apply Blk.drew | with_reducible apply Blk.drewN | (with_reducible apply Blk.other; · first | (simp; done) | (simp; omega) | omega)))); rintro e w9 ⟨rfl, rfl⟩))
          go_region
          have HML := hid hml
          clear hml
          rcases HR.out with ⟨hs, rfl⟩ | ⟨hs, rfl⟩
          · go_wp2_with (first | (go_at_call_of 160 (Value.bool true); refine (fail_raise w.heap.size i _ 3 _ ?_).mono ?_; (focus (repeat (first | with_reducible exact K7.out.xi | with_reducible apply Blk.alloc | with_reducible apply Blk.drew | with_reducible apply Blk.drewN | (with_reducible apply Blk.other; · first | (simp; done) | (simp; omega) | omega)))); rintro e w9 ⟨rfl, rfl⟩))
            exact ⟨rfl, rfl, (K7.out.finish _).drew.mod⟩
          · go_wp2_with (first | (go_at_call_of 160 (Value.bool false); refine (fail_pass w.heap.size i _ 3 _ ?_).mono ?_; (focus (repeat (first | with_reducible exact K7.out.xi | with_reducible apply Blk.alloc | with_reducible apply Blk.drew | with_reducible apply Blk.drewN | (with_reducible apply Blk.other; · first | (simp; done) | (simp; omega) | omega)))); rintro e w9 ⟨rfl, rfl⟩))
            go_end0
            have e1 : addM f M = joinB f.path :: M := by simp [addM, HP.out]
            have e2 : addA f A = (heads f.path (q - 1)).reverse ++ A := by simp [addA, HP.out, HML.out]
            exact ⟨rfl, e1.symm ▸ e2.symm ▸ (K7.out.finish _).drew⟩
end Go.Proofs.YtnhgichiedninaaGreatDoor
