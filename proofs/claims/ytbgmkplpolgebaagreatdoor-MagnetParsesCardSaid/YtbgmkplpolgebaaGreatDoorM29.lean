/-
  Several texts in one, in their build order. The reference's text of an address. Conditions: the address is right.
-/
import Derived.Test.YtbgmkplpolgebaaGreatDoorM28
namespace Go.Proofs.YtbgmkplpolgebaaGreatDoor
set_option linter.unusedSimpArgs false
set_option linter.unusedVariables false
open Go.RowKit Go.Shelf

theorem pairs_get : ∀ (n : Nat) (l : List UInt8), l.length = 2 * n → ∀ k (hk : 2 * k + 1 < l.length), (pairsN l)[k]? = some (l[2 * k].toNat * 256 + l[2 * k + 1].toNat)
  | 0, l, h, k, hk => by omega
  | n + 1, [], h, k, hk => by simp at hk
  | n + 1, [a], h, k, hk => by simp at h; omega
  | n + 1, a :: b :: r, h, 0, hk => rfl
  | n + 1, a :: b :: r, h, k + 1, hk => by
    have := pairs_get n r (by simp at h; omega) k (by simp at hk; omega)
    show (pairsN r)[k]? = _
    rw [this]
    rfl
theorem dec_len5 {m : Nat} (h : m ≤ 100000) : (Lib.decDigits m).length ≤ 21 := by
  have := itoa_size (n := (m : Int)) (by omega) (by omega)
  rw [show itoaB (m : Int) = mkB (Lib.decDigits m) by unfold itoaB; rw [itoa_nat]; rfl, size_list] at this
  exact this
theorem join_take {c : UInt8} {L : List (List UInt8)} {k : Nat} (h : k < L.length) (h0 : k ≠ 0) : Lib.join (L.take (k + 1)) [c] = Lib.join (L.take k) [c] ++ c :: L[k] := by
  rw [lst_next h, join_snoc]
  intro q
  rw [List.take_eq_nil_iff] at q
  rcases q with q | q
  · exact h0 q
  · rw [q] at h
    simp at h
theorem join_take0 {c : UInt8} {L : List (List UInt8)} (h : 0 < L.length) : Lib.join (L.take (0 + 1)) [c] = Lib.join (L.take 0) [c] ++ L[0] := by
  rw [lst_next h, List.take_zero, List.nil_append, Lib.join_one]
  rfl
set_option maxRecDepth 100000 in
set_option maxHeartbeats 4000000 in
theorem rAtxt_any (x : AdrV) (w : World) (ok : adrOk x = true) : Calls Tryz.prog 120 #[.agg #[.int .i64 x.fam, .string x.ip, .int .i64 x.port]] w fun e w' => e = .returned (.string (mkB (atxt x))) ∧ New w w' := by
  obtain ⟨hf, hp1, hp2⟩ := adrOk_iff.1 ok
  obtain ⟨fam, ip, port⟩ := x
  simp only at hf hp1 hp2 ⊢
  obtain ⟨p, rfl⟩ := Int.eq_ofNat_of_zero_le (show 0 ≤ port by omega)
  have HDP := hid (fun W => dec_byte p (by omega) W)
  have hsp := dec_len5 (m := p) (by omega)
  have hszp : (mkB (Lib.decDigits p)).size ≤ 21 := by rw [size_list]; exact hsp
  obtain ⟨D, hD⟩ : ∃ D, D = Lib.decDigits p := ⟨_, rfl⟩
  rw [← hD] at HDP hszp
  have B0 := hid (Blk.new w #[.int .i64 fam, .string ip, .int .i64 ((p : Int))] 64)
  have NA : Hid (New w (w.alloc (.cells #[.int .i64 fam, .string ip, .int .i64 ((p : Int))] 64))) := hid ((Mod.refl (fun _ => False) w).alloc (.cells #[.int .i64 fam, .string ip, .int .i64 ((p : Int))] 64))
  have HC := hid (fun W (n : New (w.alloc (.cells #[.int .i64 fam, .string ip, .int .i64 ((p : Int))] 64)) W) => (New.blk n B0.out).cellv 1 rfl)
  have HC2 := hid (fun W (n : New (w.alloc (.cells #[.int .i64 fam, .string ip, .int .i64 ((p : Int))] 64)) W) => (New.blk n B0.out).cellv 2 rfl)
  have c0 := B0.out.cellv 0 rfl
  rcases hf with ⟨rfl, hs⟩ | ⟨rfl, hs⟩
  · have hl4 : ip.data.toList.length = 4 := by rw [Array.length_toList]; exact hs
    obtain ⟨L, hL⟩ : ∃ L, L = ip.data.toList.map (fun b => Lib.decDigits b.toNat) := ⟨_, rfl⟩
    have hLl : L.length = 4 := by rw [hL, List.length_map, hl4]
    have HR := hid (show atxt ⟨4, ip, (p : Int)⟩ = Lib.join L [46] ++ 58 :: D by
      unfold atxt bodyT
      rw [if_pos rfl, hL, hD]
      rfl)
    have HG : Hid (∀ k (h : k < ip.size) (h2 : k < L.length), L[k] = Lib.decDigits ip[k].toNat) := hid (fun k h h2 => by
      subst hL
      rw [List.getElem_map]
      rfl)
    have HJL : Hid (∀ k, (Lib.join (L.take k) [46]).length ≤ 4 * 22) := hid (fun k => by
      have h1 := join_len 46 21 (L.take k) (fun y hy => by
        have hy := List.mem_of_mem_take hy
        rw [hL] at hy
        obtain ⟨b, -, rfl⟩ := List.mem_map.1 hy
        have := b.toNat_lt
        exact dec_len5 (by omega))
      rw [List.length_take] at h1
      have h2 : min k L.length * (21 + 1) ≤ 4 * 22 := Nat.mul_le_mul_right _ (by omega)
      omega)
    clear hL hl4 hD
    go_enter Tryz.func120, Tryz.ntmps120
    go_wp2_with fail
    go_loopw [9, 3] (fun i o wr => ∃ (k : Nat) (b : ByteArray), i = .int .i64 k ∧ o = .string b ∧ k ≤ 4 ∧ b = mkB (Lib.join (L.take k) [46]) ∧ New (w.alloc (.cells #[.int .i64 4, .string ip, .int .i64 ((p : Int))] 64)) wr) (fun i _ _ => 4 - (intOf i).toNat)
    case atStart => exact ⟨0, _, rfl, rfl, by omega, by rw [List.take_zero]; rfl, Mod.refl _ _⟩
    case round =>
      obtain ⟨k, b, rfl, rfl, hk, hO, hN⟩ := hrel
      have c1 := HC.out _ hN; have c2 := HC2.out _ hN
      have HN := hid hN
      have hbs : b.size ≤ 88 := by rw [hO, size_list]; exact HJL.out k
      have HO := hid hO
      clear hO hN
      by_cases hlt : k < 4
      · have hltI : (k : Int) < 4 := by omega
        have hks : k < ip.size := by omega
        have hksI : (k : Int) < (ip.size : Int) := by omega
        have hkL : k < L.length := by omega
        have hb := ip[k].toNat_lt
        have HD := hid (fun W => dec_byte ip[k].toNat (by omega) W)
        have hsd : (mkB (Lib.decDigits ip[k].toNat)).size ≤ 21 := by rw [size_list]; exact dec_len5 (by omega)
        have HGk := hid (HG.out k hks hkL)
        by_cases h0 : k = 0
        · have hk0 : ¬ (0 : Int) < (k : Int) := by omega
          have HT := hid (show b ++ mkB (Lib.decDigits ip[k].toNat) = mkB (Lib.join (L.take (k + 1)) [46]) by
            rw [HO.out, mkB_app, ← HGk.out]
            subst h0
            rw [join_take0 hkL])
          clear h0
          go_wp2_with fail
          refine (HD.out _).mono ?_
          rintro e w2 ⟨rfl, n2⟩
          have N2 := hid (HN.out.trans n2)
          clear n2
          go_wp2
          exact ⟨⟨k + 1, _, by simp, rfl, by omega, HT.out, N2.out⟩, by simp [intOf]; omega⟩
        · have hk0 : (0 : Int) < (k : Int) := by omega
          have HT := hid (show b ++ ⟨#[46]⟩ ++ mkB (Lib.decDigits ip[k].toNat) = mkB (Lib.join (L.take (k + 1)) [46]) by
            rw [HO.out, show (⟨#[46]⟩ : ByteArray) = mkB [46] from rfl, mkB_app, mkB_app, ← HGk.out, join_take hkL h0]
            simp)
          have hs1 : (⟨#[46]⟩ : ByteArray).size = 1 := rfl
          have hs2 : (b ++ ⟨#[46]⟩ : ByteArray).size = b.size + 1 := by rw [ByteArray.size_append]; rfl
          clear h0
          go_wp2_with fail
          refine (HD.out _).mono ?_
          rintro e w2 ⟨rfl, n2⟩
          have N2 := hid (HN.out.trans n2)
          clear n2
          go_wp2
          exact ⟨⟨k + 1, _, by simp, rfl, by omega, HT.out, N2.out⟩, by simp [intOf]; omega⟩
      · obtain rfl : k = 4 := by omega
        have HB := hid (show b = mkB (Lib.join L [46]) by rw [HO.out, List.take_of_length_le (by omega)])
        have hs1 : (⟨#[58]⟩ : ByteArray).size = 1 := rfl
        have hs2 : (b ++ ⟨#[58]⟩ : ByteArray).size = b.size + 1 := by rw [ByteArray.size_append]; rfl
        go_wp2_with fail
        refine (HDP.out _).mono ?_
        rintro e w2 ⟨rfl, n2⟩
        have N2 := hid ((NA.out.trans HN.out).trans n2)
        clear n2
        go_wp2
        go_ret
        exact ⟨ret_str (by rw [HB.out, HR.out, show (⟨#[58]⟩ : ByteArray) = mkB [58] from rfl, mkB_app, mkB_app]; simp), N2.out⟩
  · have hl16 : ip.data.toList.length = 2 * 8 := by rw [Array.length_toList]; exact hs
    obtain ⟨q1, q2, q3⟩ := pairs_forth 8 _ hl16
    have HPG := hid (fun k hk => pairs_get 8 _ hl16 k hk)
    obtain ⟨L, hL⟩ : ∃ L, L = (pairsN ip.data.toList).map hexG := ⟨_, rfl⟩
    have hLl : L.length = 8 := by rw [hL, List.length_map, q2]
    have HR := hid (show atxt ⟨6, ip, (p : Int)⟩ = 91 :: (Lib.join L [58] ++ [93]) ++ 58 :: D by
      unfold atxt bodyT
      rw [if_neg (show ¬ ((6 : Int) = 4) by decide), hL, hD]
      rfl)
    have HG : Hid (∀ k (h : 2 * k + 1 < ip.size) (h2 : k < L.length), L[k] = hexG (ip[2 * k].toNat * 256 + ip[2 * k + 1].toNat)) := hid (fun k h h2 => by
      subst hL
      rw [List.getElem_map]
      have := HPG.out k (by omega)
      rw [List.getElem?_eq_getElem (by simpa using h2)] at this
      injection this with this
      rw [this]
      rfl)
    have HJL : Hid (∀ k, (Lib.join (L.take k) [58]).length ≤ 8 * 5) := hid (fun k => by
      have h1 := join_len 58 4 (L.take k) (fun y hy => by
        have hy := List.mem_of_mem_take hy
        rw [hL] at hy
        obtain ⟨b, hb, rfl⟩ := List.mem_map.1 hy
        exact hexG_len _ (q3 _ hb))
      rw [List.length_take] at h1
      have h2 : min k L.length * (4 + 1) ≤ 8 * 5 := Nat.mul_le_mul_right _ (by omega)
      omega)
    clear hL hl16 hD q1 q2 q3 HPG
    go_enter Tryz.func120, Tryz.ntmps120
    go_wp2_with fail
    go_loopw [5, 3] (fun i o wr => ∃ (k : Nat) (b : ByteArray), i = .int .i64 ((2 * k : Nat) : Int) ∧ o = .string b ∧ k ≤ 8 ∧ b = mkB (Lib.join (L.take k) [58]) ∧ New (w.alloc (.cells #[.int .i64 6, .string ip, .int .i64 ((p : Int))] 64)) wr) (fun i _ _ => 16 - (intOf i).toNat)
    case atStart => exact ⟨0, _, rfl, rfl, by omega, by rw [List.take_zero]; rfl, Mod.refl _ _⟩
    case round =>
      obtain ⟨k, b, rfl, rfl, hk, hO, hN⟩ := hrel
      have c1 := HC.out _ hN; have c2 := HC2.out _ hN
      have HN := hid hN
      have hbs : b.size ≤ 40 := by rw [hO, size_list]; exact HJL.out k
      have HO := hid hO
      clear hO hN
      obtain ⟨K, hK⟩ : ∃ K, K = 2 * k := ⟨_, rfl⟩
      rw [← hK]
      by_cases hlt : k < 8
      · have hltI : (K : Int) < 16 := by omega
        have hks : K < ip.size := by omega
        have hks1 : K + 1 < ip.size := by omega
        have hksI : (K : Int) < (ip.size : Int) := by omega
        have hksI1 : (K : Int) + 1 < (ip.size : Int) := by omega
        have hltI1 : (K : Int) + 1 < 16 := by omega
        have hlt1 : K + 1 < 16 := by omega
        have kp1 : (0 : Int) ≤ (K : Int) + 1 := by omega
        have kw : IntKind.i64.wrap ((K : Int) + 1) = (K : Int) + 1 := IntWalk.i64_in _ (by omega)
        have kw2 : IntKind.i64.wrap ((K : Int) + 2) = (K : Int) + 2 := IntWalk.i64_in _ (by omega)
        have kn : ((K : Int) + 1).toNat = K + 1 := by omega
        have hkL : k < L.length := by omega
        have hb := ip[K].toNat_lt
        have hb1 := ip[K + 1].toNat_lt
        obtain ⟨u, hu⟩ : ∃ u : Nat, u = ip[K].toNat * 256 + ip[K + 1].toNat := ⟨_, rfl⟩
        have HD := hid (fun W => group_any u (by omega) W)
        have HM3 : Hid (IntKind.i64.wrap (IntKind.i64.wrap (IntKind.i64.wrap (ip[K].toNat : Int) * 256) + IntKind.i64.wrap (ip[K + 1].toNat : Int)) = (u : Int)) := hid (by
          rw [IntWalk.i64_in (ip[K].toNat : Int) (by omega), IntWalk.i64_in (ip[K + 1].toNat : Int) (by omega), IntWalk.i64_in ((ip[K].toNat : Int) * 256) (by omega), IntWalk.i64_in _ (by omega)]
          omega)
        have HGk := hid (show L[k] = hexG u by subst hK; rw [hu]; exact HG.out k hks1 hkL)
        have hsd : (mkB (hexG u)).size ≤ 4 := by rw [size_list]; exact hexG_len _ (by omega)
        obtain ⟨G, hG⟩ : ∃ G, G = hexG u := ⟨_, rfl⟩
        rw [← hG] at HD hsd HGk
        clear hu
        have HK := hid hK
        clear hK hG
        have hns : ¬ 9223372036854775807 < b.size + (mkB G).size := by omega
        have hns1 : ¬ 9223372036854775807 < b.size + 1 + (mkB G).size := by omega
        by_cases h0 : k = 0
        · have hk0 : ¬ (0 : Int) < (K : Int) := by have := HK.out; omega
          have HT := hid (show b ++ mkB G = mkB (Lib.join (L.take (k + 1)) [58]) by
            rw [HO.out, mkB_app, ← HGk.out]
            subst h0
            rw [join_take0 hkL])
          clear h0
          go_wp2_with fail
          refine wp_region_held_drew (S := (fun w' => w'.cell? ⟨w.heap.size, 1, none⟩ = some (.string ip))) (by kernel_rfl) c1 (fun hHeld => ?_)
          refine tk (v := ?_) 0 ?_ ?_
          rotate_left
          · intro w hSw
            (try dsimp only at hSw)
            first | (go_simp; done) | (go_simp; with_reducible rfl) | with_reducible rfl
          simp only [Act.put, List.setIfInBounds_toArray, List.set_cons_zero, List.set_cons_succ]
          refine tk (v := ?_) 1 ?_ ?_
          rotate_left
          · intro w hSw
            (try dsimp only at hSw)
            first | (go_simp; done) | (go_simp; with_reducible rfl) | with_reducible rfl
          simp only [Act.put, List.setIfInBounds_toArray, List.set_cons_zero, List.set_cons_succ]
          refine tk (v := ?_) 2 ?_ ?_
          rotate_left
          · intro w hSw
            (try dsimp only at hSw)
            first | (go_simp; done) | (go_simp; with_reducible rfl) | with_reducible rfl
          simp only [Act.put, List.setIfInBounds_toArray, List.set_cons_zero, List.set_cons_succ]
          refine tk (v := ?_) 3 ?_ ?_
          rotate_left
          · intro w hSw
            (try dsimp only at hSw)
            first | (go_simp; done) | (go_simp; with_reducible rfl) | with_reducible rfl
          simp only [Act.put, List.setIfInBounds_toArray, List.set_cons_zero, List.set_cons_succ]
          refine tk (v := ?_) 4 ?_ ?_
          rotate_left
          · intro w hSw
            (try dsimp only at hSw)
            first | (go_simp; done) | (go_simp; with_reducible rfl) | with_reducible rfl
          simp only [Act.put, List.setIfInBounds_toArray, List.set_cons_zero, List.set_cons_succ]
          refine tk (v := ?_) 5 ?_ ?_
          rotate_left
          · intro w hSw
            (try dsimp only at hSw)
            first | (go_simp; done) | (go_simp; with_reducible rfl) | with_reducible rfl
          simp only [Act.put, List.setIfInBounds_toArray, List.set_cons_zero, List.set_cons_succ]
          refine tk (v := ?_) 6 ?_ ?_
          rotate_left
          · intro w hSw
            (try dsimp only at hSw)
            first | (go_simp; done) | (go_simp; with_reducible rfl) | with_reducible rfl
          simp only [Act.put, List.setIfInBounds_toArray, List.set_cons_zero, List.set_cons_succ]
          refine tk (v := ?_) 7 ?_ ?_
          rotate_left
          · intro w hSw
            (try dsimp only at hSw)
            first | (go_simp; done) | (go_simp; with_reducible rfl) | with_reducible rfl
          simp only [Act.put, List.setIfInBounds_toArray, List.set_cons_zero, List.set_cons_succ]
          refine tk (v := ?_) 8 ?_ ?_
          rotate_left
          · intro w hSw
            (try dsimp only at hSw)
            first | (go_simp; done) | (go_simp; with_reducible rfl) | with_reducible rfl
          simp only [Act.put, List.setIfInBounds_toArray, List.set_cons_zero, List.set_cons_succ]
          refine tk (v := ?_) 9 ?_ ?_
          rotate_left
          · intro w hSw
            (try dsimp only at hSw)
            first | (go_simp; done) | (go_simp; with_reducible rfl) | with_reducible rfl
          simp only [Act.put, List.setIfInBounds_toArray, List.set_cons_zero, List.set_cons_succ]
          refine tk (v := ?_) 10 ?_ ?_
          rotate_left
          · intro w hSw
            (try dsimp only at hSw)
            first | (go_simp; done) | (go_simp; with_reducible rfl) | with_reducible rfl
          simp only [Act.put, List.setIfInBounds_toArray, List.set_cons_zero, List.set_cons_succ]
          refine tk (v := ?_) 11 ?_ ?_
          rotate_left
          · intro w hSw
            (try dsimp only at hSw)
            first | (go_simp; done) | (go_simp; with_reducible rfl) | with_reducible rfl
          simp only [Act.put, List.setIfInBounds_toArray, List.set_cons_zero, List.set_cons_succ]
          refine tk (v := ?_) 12 ?_ ?_
          rotate_left
          · intro w hSw
            (try dsimp only at hSw)
            first | (go_simp; done) | (go_simp; with_reducible rfl) | with_reducible rfl
          simp only [Act.put, List.setIfInBounds_toArray, List.set_cons_zero, List.set_cons_succ]
          refine tk (v := ?_) 13 ?_ ?_
          rotate_left
          · intro w hSw
            (try dsimp only at hSw)
            first | (go_simp; done) | (go_simp; with_reducible rfl) | with_reducible rfl
          simp only [Act.put, List.setIfInBounds_toArray, List.set_cons_zero, List.set_cons_succ]
          refine wpAnyH_ready (rs := [14]) (by kernel_rfl) (by simp) ?_
          refine AllReadyH.cons rfl (fun K hK => ?_) AllReadyH.nil
          go_simp
          (rw [HM3.out]; go_at_call 159; refine (HD.out _).mono ?_; rintro e w3 ⟨rfl, rfl⟩)
          try dsimp only
          refine hK.out _ _ c1 (fun hHeld14 => ?_)
          clear hK K
          try simp only [Act.put, List.setIfInBounds_toArray, List.set_cons_zero, List.set_cons_succ]
          refine tk (v := ?_) 15 ?_ ?_
          rotate_left
          · intro w hSw
            (try dsimp only at hSw)
            first | (go_simp; done) | (go_simp; with_reducible rfl) | with_reducible rfl
          simp only [Act.put, List.setIfInBounds_toArray, List.set_cons_zero, List.set_cons_succ]
          refine tk (v := ?_) 16 ?_ ?_
          rotate_left
          · intro w hSw
            (try dsimp only at hSw)
            first | (go_simp; done) | (go_simp; with_reducible rfl) | with_reducible rfl
          simp only [Act.put, List.setIfInBounds_toArray, List.set_cons_zero, List.set_cons_succ]
          refine wpAnyH_done (by kernel_rfl) ?_ _
          go_wp2_with fail
          exact ⟨⟨k + 1, _, by have := HK.out; congr 1; omega, rfl, by omega, HT.out, HN.out.drew⟩, by simp [intOf]; omega⟩
        · have hk0 : (0 : Int) < (K : Int) := by have := HK.out; omega
          have HT := hid (show b ++ ⟨#[58]⟩ ++ mkB G = mkB (Lib.join (L.take (k + 1)) [58]) by
            rw [HO.out, show (⟨#[58]⟩ : ByteArray) = mkB [58] from rfl, mkB_app, mkB_app, ← HGk.out, join_take hkL h0]
            simp)
          have hs1 : (⟨#[58]⟩ : ByteArray).size = 1 := rfl
          have hs2 : (b ++ ⟨#[58]⟩ : ByteArray).size = b.size + 1 := by rw [ByteArray.size_append]; rfl
          clear h0
          go_wp2_with fail
          refine wp_region_held_drew (S := (fun w' => w'.cell? ⟨w.heap.size, 1, none⟩ = some (.string ip))) (by kernel_rfl) c1 (fun hHeld => ?_)
          refine tk (v := ?_) 0 ?_ ?_
          rotate_left
          · intro w hSw
            (try dsimp only at hSw)
            first | (go_simp; done) | (go_simp; with_reducible rfl) | with_reducible rfl
          simp only [Act.put, List.setIfInBounds_toArray, List.set_cons_zero, List.set_cons_succ]
          refine tk (v := ?_) 1 ?_ ?_
          rotate_left
          · intro w hSw
            (try dsimp only at hSw)
            first | (go_simp; done) | (go_simp; with_reducible rfl) | with_reducible rfl
          simp only [Act.put, List.setIfInBounds_toArray, List.set_cons_zero, List.set_cons_succ]
          refine tk (v := ?_) 2 ?_ ?_
          rotate_left
          · intro w hSw
            (try dsimp only at hSw)
            first | (go_simp; done) | (go_simp; with_reducible rfl) | with_reducible rfl
          simp only [Act.put, List.setIfInBounds_toArray, List.set_cons_zero, List.set_cons_succ]
          refine tk (v := ?_) 3 ?_ ?_
          rotate_left
          · intro w hSw
            (try dsimp only at hSw)
            first | (go_simp; done) | (go_simp; with_reducible rfl) | with_reducible rfl
          simp only [Act.put, List.setIfInBounds_toArray, List.set_cons_zero, List.set_cons_succ]
          refine tk (v := ?_) 4 ?_ ?_
          rotate_left
          · intro w hSw
            (try dsimp only at hSw)
            first | (go_simp; done) | (go_simp; with_reducible rfl) | with_reducible rfl
          simp only [Act.put, List.setIfInBounds_toArray, List.set_cons_zero, List.set_cons_succ]
          refine tk (v := ?_) 5 ?_ ?_
          rotate_left
          · intro w hSw
            (try dsimp only at hSw)
            first | (go_simp; done) | (go_simp; with_reducible rfl) | with_reducible rfl
          simp only [Act.put, List.setIfInBounds_toArray, List.set_cons_zero, List.set_cons_succ]
          refine tk (v := ?_) 6 ?_ ?_
          rotate_left
          · intro w hSw
            (try dsimp only at hSw)
            first | (go_simp; done) | (go_simp; with_reducible rfl) | with_reducible rfl
          simp only [Act.put, List.setIfInBounds_toArray, List.set_cons_zero, List.set_cons_succ]
          refine tk (v := ?_) 7 ?_ ?_
          rotate_left
          · intro w hSw
            (try dsimp only at hSw)
            first | (go_simp; done) | (go_simp; with_reducible rfl) | with_reducible rfl
          simp only [Act.put, List.setIfInBounds_toArray, List.set_cons_zero, List.set_cons_succ]
          refine tk (v := ?_) 8 ?_ ?_
          rotate_left
          · intro w hSw
            (try dsimp only at hSw)
            first | (go_simp; done) | (go_simp; with_reducible rfl) | with_reducible rfl
          simp only [Act.put, List.setIfInBounds_toArray, List.set_cons_zero, List.set_cons_succ]
          refine tk (v := ?_) 9 ?_ ?_
          rotate_left
          · intro w hSw
            (try dsimp only at hSw)
            first | (go_simp; done) | (go_simp; with_reducible rfl) | with_reducible rfl
          simp only [Act.put, List.setIfInBounds_toArray, List.set_cons_zero, List.set_cons_succ]
          refine tk (v := ?_) 10 ?_ ?_
          rotate_left
          · intro w hSw
            (try dsimp only at hSw)
            first | (go_simp; done) | (go_simp; with_reducible rfl) | with_reducible rfl
          simp only [Act.put, List.setIfInBounds_toArray, List.set_cons_zero, List.set_cons_succ]
          refine tk (v := ?_) 11 ?_ ?_
          rotate_left
          · intro w hSw
            (try dsimp only at hSw)
            first | (go_simp; done) | (go_simp; with_reducible rfl) | with_reducible rfl
          simp only [Act.put, List.setIfInBounds_toArray, List.set_cons_zero, List.set_cons_succ]
          refine tk (v := ?_) 12 ?_ ?_
          rotate_left
          · intro w hSw
            (try dsimp only at hSw)
            first | (go_simp; done) | (go_simp; with_reducible rfl) | with_reducible rfl
          simp only [Act.put, List.setIfInBounds_toArray, List.set_cons_zero, List.set_cons_succ]
          refine tk (v := ?_) 13 ?_ ?_
          rotate_left
          · intro w hSw
            (try dsimp only at hSw)
            first | (go_simp; done) | (go_simp; with_reducible rfl) | with_reducible rfl
          simp only [Act.put, List.setIfInBounds_toArray, List.set_cons_zero, List.set_cons_succ]
          refine wpAnyH_ready (rs := [14]) (by kernel_rfl) (by simp) ?_
          refine AllReadyH.cons rfl (fun K hK => ?_) AllReadyH.nil
          go_simp
          (rw [HM3.out]; go_at_call 159; refine (HD.out _).mono ?_; rintro e w3 ⟨rfl, rfl⟩)
          try dsimp only
          refine hK.out _ _ c1 (fun hHeld14 => ?_)
          clear hK K
          try simp only [Act.put, List.setIfInBounds_toArray, List.set_cons_zero, List.set_cons_succ]
          refine tk (v := ?_) 15 ?_ ?_
          rotate_left
          · intro w hSw
            (try dsimp only at hSw)
            first | (go_simp; done) | (go_simp; with_reducible rfl) | with_reducible rfl
          simp only [Act.put, List.setIfInBounds_toArray, List.set_cons_zero, List.set_cons_succ]
          refine tk (v := ?_) 16 ?_ ?_
          rotate_left
          · intro w hSw
            (try dsimp only at hSw)
            first | (go_simp; done) | (go_simp; with_reducible rfl) | with_reducible rfl
          simp only [Act.put, List.setIfInBounds_toArray, List.set_cons_zero, List.set_cons_succ]
          refine wpAnyH_done (by kernel_rfl) ?_ _
          go_wp2_with fail
          exact ⟨⟨k + 1, _, by have := HK.out; congr 1; omega, rfl, by omega, HT.out, HN.out.drew⟩, by simp [intOf]; omega⟩
      · have hk8 : k = 8 := by omega
        have hltI : ¬ (K : Int) < 16 := by omega
        subst hk8
        clear hK hlt
        have HB := hid (show b = mkB (Lib.join L [58]) by rw [HO.out, List.take_of_length_le (by omega)])
        have hs1 : (⟨#[91]⟩ : ByteArray).size = 1 := rfl
        have hs2 : (⟨#[91]⟩ ++ b : ByteArray).size = 1 + b.size := by rw [ByteArray.size_append]; rfl
        have hs3 : (⟨#[91]⟩ ++ b ++ ⟨#[93, 58]⟩ : ByteArray).size = 1 + b.size + 2 := by rw [ByteArray.size_append, hs2]; rfl
        go_wp2_with fail
        refine (HDP.out _).mono ?_
        rintro e w2 ⟨rfl, n2⟩
        have N2 := hid ((NA.out.trans HN.out).trans n2)
        clear n2
        go_wp2
        go_ret
        exact ⟨ret_str (by rw [HB.out, HR.out, show (⟨#[91]⟩ : ByteArray) = mkB [91] from rfl, show (⟨#[93, 58]⟩ : ByteArray) = mkB [93, 58] from rfl, mkB_app, mkB_app, mkB_app]; simp), N2.out⟩
end Go.Proofs.YtbgmkplpolgebaaGreatDoor
