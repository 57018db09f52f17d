/-
  Several texts in one, in their build order. The reference's text of an address. Conditions: the address is right. How long a magnet's text is; what is read of it. Plain Lean, no program. No condition.
-/
import Derived.Test.YtbgmkplpolgebaaGreatDoorM32
import Derived.Test.YtbgmkplpolgebaaGreatDoorM37
import Derived.Test.YtbgmkplpolgebaaGreatDoorM21
namespace Go.Proofs.YtbgmkplpolgebaaGreatDoor
set_option linter.unusedSimpArgs false
set_option linter.unusedVariables false
open Go.RowKit Go.Shelf

theorem pairs_get : ∀ (n : Nat) (l : List UInt8), l.length = 2 * n → ∀ k (hk : 2 * k + 1 < l.length), (pairsN l)[k]? = some (l[2 * k].toNat * 256 + l[2 * k + 1].toNat)
  | 0, l, h, k, hk => by omega
  | n + 1, [], h, k, hk => by simp at hk
  | n + 1, [a], h, k, hk => by simp at h; omega
  | n + 1, a :: b :: r, h, 0, hk => rfl
  | n + 1, a :: b :: r, h, k + 1, hk => by
    have := pairs_get n r (by simp at h; omega) k (by simp at hk; omega)
    show (pairsN r)[k]? = _
    rw [this]
    rfl
theorem dec_len5 {m : Nat} (h : m ≤ 100000) : (Lib.decDigits m).length ≤ 21 := by
  have := itoa_size (n := (m : Int)) (by omega) (by omega)
  rw [show itoaB (m : Int) = mkB (Lib.decDigits m) by unfold itoaB; rw [itoa_nat]; rfl, size_list] at this
  exact this
theorem join_take {c : UInt8} {L : List (List UInt8)} {k : Nat} (h : k < L.length) (h0 : k ≠ 0) : Lib.join (L.take (k + 1)) [c] = Lib.join (L.take k) [c] ++ c :: L[k] := by
  rw [lst_next h, join_snoc]
  intro q
  rw [List.take_eq_nil_iff] at q
  rcases q with q | q
  · exact h0 q
  · rw [q] at h
    simp at h
theorem join_take0 {c : UInt8} {L : List (List UInt8)} (h : 0 < L.length) : Lib.join (L.take (0 + 1)) [c] = Lib.join (L.take 0) [c] ++ L[0] := by
  rw [lst_next h, List.take_zero, List.nil_append, Lib.join_one]
  rfl
set_option maxRecDepth 100000 in
set_option maxHeartbeats 4000000 in
theorem rAtxt_any (x : AdrV) (w : World) (ok : adrOk x = true) : Calls Tryz.prog 120 #[.agg #[.int .i64 x.fam, .string x.ip, .int .i64 x.port]] w fun e w' => e = .returned (.string (mkB (atxt x))) ∧ New w w' := by
  obtain ⟨hf, hp1, hp2⟩ := adrOk_iff.1 ok
  obtain ⟨fam, ip, port⟩ := x
  simp only at hf hp1 hp2 ⊢
  obtain ⟨p, rfl⟩ := Int.eq_ofNat_of_zero_le (show 0 ≤ port by omega)
  have HDP := hid (fun W => dec_byte p (by omega) W)
  have hsp := dec_len5 (m := p) (by omega)
  have hszp : (mkB (Lib.decDigits p)).size ≤ 21 := by rw [size_list]; exact hsp
  obtain ⟨D, hD⟩ : ∃ D, D = Lib.decDigits p := ⟨_, rfl⟩
  rw [← hD] at HDP hszp
  have B0 := hid (Blk.new w #[.int .i64 fam, .string ip, .int .i64 ((p : Int))] 64)
  have NA : Hid (New w (w.alloc (.cells #[.int .i64 fam, .string ip, .int .i64 ((p : Int))] 64))) := hid ((Mod.refl (fun _ => False) w).alloc (.cells #[.int .i64 fam, .string ip, .int .i64 ((p : Int))] 64))
  have HC := hid (fun W (n : New (w.alloc (.cells #[.int .i64 fam, .string ip, .int .i64 ((p : Int))] 64)) W) => (New.blk n B0.out).cellv 1 rfl)
  have HC2 := hid (fun W (n : New (w.alloc (.cells #[.int .i64 fam, .string ip, .int .i64 ((p : Int))] 64)) W) => (New.blk n B0.out).cellv 2 rfl)
  have c0 := B0.out.cellv 0 rfl
  rcases hf with ⟨rfl, hs⟩ | ⟨rfl, hs⟩
  · have hl4 : ip.data.toList.length = 4 := by rw [Array.length_toList]; exact hs
    obtain ⟨L, hL⟩ : ∃ L, L = ip.data.toList.map (fun b => Lib.decDigits b.toNat) := ⟨_, rfl⟩
    have hLl : L.length = 4 := by rw [hL, List.length_map, hl4]
    have HR := hid (show atxt ⟨4, ip, (p : Int)⟩ = Lib.join L [46] ++ 58 :: D by
      unfold atxt bodyT
      rw [if_pos rfl, hL, hD]
      rfl)
    have HG : Hid (∀ k (h : k < ip.size) (h2 : k < L.length), L[k] = Lib.decDigits ip[k].toNat) := hid (fun k h h2 => by
      subst hL
      rw [List.getElem_map]
      rfl)
    have HJL : Hid (∀ k, (Lib.join (L.take k) [46]).length ≤ 4 * 22) := hid (fun k => by
      have h1 := join_len 46 21 (L.take k) (fun y hy => by
        have hy := List.mem_of_mem_take hy
        rw [hL] at hy
        obtain ⟨b, -, rfl⟩ := List.mem_map.1 hy
        have := b.toNat_lt
        exact dec_len5 (by omega))
      rw [List.length_take] at h1
      have h2 : min k L.length * (21 + 1) ≤ 4 * 22 := Nat.mul_le_mul_right _ (by omega)
      omega)
    clear hL hl4 hD
    go_enter Tryz.func120, Tryz.ntmps120
    go_wp2_with fail
    go_loopw [9, 3] (fun i o wr => ∃ (k : Nat) (b : ByteArray), i = .int .i64 k ∧ o = .string b ∧ k ≤ 4 ∧ b = mkB (Lib.join (L.take k) [46]) ∧ New (w.alloc (.cells #[.int .i64 4, .string ip, .int .i64 ((p : Int))] 64)) wr) (fun i _ _ => 4 - (intOf i).toNat)
    case atStart => exact ⟨0, _, rfl, rfl, by omega, by rw [List.take_zero]; rfl, Mod.refl _ _⟩
    case round =>
      obtain ⟨k, b, rfl, rfl, hk, hO, hN⟩ := hrel
      have c1 := HC.out _ hN; have c2 := HC2.out _ hN
      have HN := hid hN
      have hbs : b.size ≤ 88 := by rw [hO, size_list]; exact HJL.out k
      have HO := hid hO
      clear hO hN
      by_cases hlt : k < 4
      · have hltI : (k : Int) < 4 := by omega
        have hks : k < ip.size := by omega
        have hksI : (k : Int) < (ip.size : Int) := by omega
        have hkL : k < L.length := by omega
        have hb := ip[k].toNat_lt
        have HD := hid (fun W => dec_byte ip[k].toNat (by omega) W)
        have hsd : (mkB (Lib.decDigits ip[k].toNat)).size ≤ 21 := by rw [size_list]; exact dec_len5 (by omega)
        have HGk := hid (HG.out k hks hkL)
        by_cases h0 : k = 0
        · have hk0 : ¬ (0 : Int) < (k : Int) := by omega
          have HT := hid (show b ++ mkB (Lib.decDigits ip[k].toNat) = mkB (Lib.join (L.take (k + 1)) [46]) by
            rw [HO.out, mkB_app, ← HGk.out]
            subst h0
            rw [join_take0 hkL])
          clear h0
          go_wp2_with fail
          refine (HD.out _).mono ?_
          rintro e w2 ⟨rfl, n2⟩
          have N2 := hid (HN.out.trans n2)
          clear n2
          go_wp2
          exact ⟨⟨k + 1, _, by simp, rfl, by omega, HT.out, N2.out⟩, by simp [intOf]; omega⟩
        · have hk0 : (0 : Int) < (k : Int) := by omega
          have HT := hid (show b ++ ⟨#[46]⟩ ++ mkB (Lib.decDigits ip[k].toNat) = mkB (Lib.join (L.take (k + 1)) [46]) by
            rw [HO.out, show (⟨#[46]⟩ : ByteArray) = mkB [46] from rfl, mkB_app, mkB_app, ← HGk.out, join_take hkL h0]
            simp)
          have hs1 : (⟨#[46]⟩ : ByteArray).size = 1 := rfl
          have hs2 : (b ++ ⟨#[46]⟩ : ByteArray).size = b.size + 1 := by rw [ByteArray.size_append]; rfl
          clear h0
          go_wp2_with fail
          refine (HD.out _).mono ?_
          rintro e w2 ⟨rfl, n2⟩
          have N2 := hid (HN.out.trans n2)
          clear n2
          go_wp2
          exact ⟨⟨k + 1, _, by simp, rfl, by omega, HT.out, N2.out⟩, by simp [intOf]; omega⟩
      · obtain rfl : k = 4 := by omega
        have HB := hid (show b = mkB (Lib.join L [46]) by rw [HO.out, List.take_of_length_le (by omega)])
        have hs1 : (⟨#[58]⟩ : ByteArray).size = 1 := rfl
        have hs2 : (b ++ ⟨#[58]⟩ : ByteArray).size = b.size + 1 := by rw [ByteArray.size_append]; rfl
        go_wp2_with fail
        refine (HDP.out _).mono ?_
        rintro e w2 ⟨rfl, n2⟩
        have N2 := hid ((NA.out.trans HN.out).trans n2)
        clear n2
        go_wp2
        go_ret
        exact ⟨ret_str (by rw [HB.out, HR.out, show (⟨#[58]⟩ : ByteArray) = mkB [58] from rfl, mkB_app, mkB_app]; simp), N2.out⟩
  · have hl16 : ip.data.toList.length = 2 * 8 := by rw [Array.length_toList]; exact hs
    obtain ⟨q1, q2, q3⟩ := pairs_forth 8 _ hl16
    have HPG := hid (fun k hk => pairs_get 8 _ hl16 k hk)
    obtain ⟨L, hL⟩ : ∃ L, L = (pairsN ip.data.toList).map hexG := ⟨_, rfl⟩
    have hLl : L.length = 8 := by rw [hL, List.length_map, q2]
    have HR := hid (show atxt ⟨6, ip, (p : Int)⟩ = 91 :: (Lib.join L [58] ++ [93]) ++ 58 :: D by
      unfold atxt bodyT
      rw [if_neg (show ¬ ((6 : Int) = 4) by decide), hL, hD]
      rfl)
    have HG : Hid (∀ k (h : 2 * k + 1 < ip.size) (h2 : k < L.length), L[k] = hexG (ip[2 * k].toNat * 256 + ip[2 * k + 1].toNat)) := hid (fun k h h2 => by
      subst hL
      rw [List.getElem_map]
      have := HPG.out k (by omega)
      rw [List.getElem?_eq_getElem (by simpa using h2)] at this
      injection this with this
      rw [this]
      rfl)
    have HJL : Hid (∀ k, (Lib.join (L.take k) [58]).length ≤ 8 * 5) := hid (fun k => by
      have h1 := join_len 58 4 (L.take k) (fun y hy => by
        have hy := List.mem_of_mem_take hy
        rw [hL] at hy
        obtain ⟨b, hb, rfl⟩ := List.mem_map.1 hy
        exact hexG_len _ (q3 _ hb))
      rw [List.length_take] at h1
      have h2 : min k L.length * (4 + 1) ≤ 8 * 5 := Nat.mul_le_mul_right _ (by omega)
      omega)
    clear hL hl16 hD q1 q2 q3 HPG
    go_enter Tryz.func120, Tryz.ntmps120
    go_wp2_with fail
    go_loopw [5, 3] (fun i o wr => ∃ (k : Nat) (b : ByteArray), i = .int .i64 ((2 * k : Nat) : Int) ∧ o = .string b ∧ k ≤ 8 ∧ b = mkB (Lib.join (L.take k) [58]) ∧ New (w.alloc (.cells #[.int .i64 6, .string ip, .int .i64 ((p : Int))] 64)) wr) (fun i _ _ => 16 - (intOf i).toNat)
    case atStart => exact ⟨0, _, rfl, rfl, by omega, by rw [List.take_zero]; rfl, Mod.refl _ _⟩
    case round =>
      obtain ⟨k, b, rfl, rfl, hk, hO, hN⟩ := hrel
      have c1 := HC.out _ hN; have c2 := HC2.out _ hN
      have HN := hid hN
      have hbs : b.size ≤ 40 := by rw [hO, size_list]; exact HJL.out k
      have HO := hid hO
      clear hO hN
      obtain ⟨K, hK⟩ : ∃ K, K = 2 * k := ⟨_, rfl⟩
      rw [← hK]
      by_cases hlt : k < 8
      · have hltI : (K : Int) < 16 := by omega
        have hks : K < ip.size := by omega
        have hks1 : K + 1 < ip.size := by omega
        have hksI : (K : Int) < (ip.size : Int) := by omega
        have hksI1 : (K : Int) + 1 < (ip.size : Int) := by omega
        have hltI1 : (K : Int) + 1 < 16 := by omega
        have hlt1 : K + 1 < 16 := by omega
        have kp1 : (0 : Int) ≤ (K : Int) + 1 := by omega
        have kw : IntKind.i64.wrap ((K : Int) + 1) = (K : Int) + 1 := IntWalk.i64_in _ (by omega)
        have kw2 : IntKind.i64.wrap ((K : Int) + 2) = (K : Int) + 2 := IntWalk.i64_in _ (by omega)
        have kn : ((K : Int) + 1).toNat = K + 1 := by omega
        have hkL : k < L.length := by omega
        have hb := ip[K].toNat_lt
        have hb1 := ip[K + 1].toNat_lt
        obtain ⟨u, hu⟩ : ∃ u : Nat, u = ip[K].toNat * 256 + ip[K + 1].toNat := ⟨_, rfl⟩
        have HD := hid (fun W => group_any u (by omega) W)
        have HM3 : Hid (IntKind.i64.wrap (IntKind.i64.wrap (IntKind.i64.wrap (ip[K].toNat : Int) * 256) + IntKind.i64.wrap (ip[K + 1].toNat : Int)) = (u : Int)) := hid (by
          rw [IntWalk.i64_in (ip[K].toNat : Int) (by omega), IntWalk.i64_in (ip[K + 1].toNat : Int) (by omega), IntWalk.i64_in ((ip[K].toNat : Int) * 256) (by omega), IntWalk.i64_in _ (by omega)]
          omega)
        have HGk := hid (show L[k] = hexG u by subst hK; rw [hu]; exact HG.out k hks1 hkL)
        have hsd : (mkB (hexG u)).size ≤ 4 := by rw [size_list]; exact hexG_len _ (by omega)
        obtain ⟨G, hG⟩ : ∃ G, G = hexG u := ⟨_, rfl⟩
        rw [← hG] at HD hsd HGk
        clear hu
        have HK := hid hK
        clear hK hG
        have hns : ¬ 9223372036854775807 < b.size + (mkB G).size := by omega
        have hns1 : ¬ 9223372036854775807 < b.size + 1 + (mkB G).size := by omega
        by_cases h0 : k = 0
        · have hk0 : ¬ (0 : Int) < (K : Int) := by have := HK.out; omega
          have HT := hid (show b ++ mkB G = mkB (Lib.join (L.take (k + 1)) [58]) by
            rw [HO.out, mkB_app, ← HGk.out]
            subst h0
            rw [join_take0 hkL])
          clear h0
          go_wp2_with fail
          refine wp_region_held_drew (S := (fun w' => w'.cell? ⟨w.heap.size, 1, none⟩ = some (.string ip))) (by kernel_rfl) c1 (fun hHeld => ?_)
          refine tk (v := ?_) 0 ?_ ?_
          rotate_left
          · intro w hSw
            (try dsimp only at hSw)
            first | (go_simp; done) | (go_simp; with_reducible rfl) | with_reducible rfl
          simp only [Act.put, List.setIfInBounds_toArray, List.set_cons_zero, List.set_cons_succ]
          refine tk (v := ?_) 1 ?_ ?_
          rotate_left
          · intro w hSw
            (try dsimp only at hSw)
            first | (go_simp; done) | (go_simp; with_reducible rfl) | with_reducible rfl
          simp only [Act.put, List.setIfInBounds_toArray, List.set_cons_zero, List.set_cons_succ]
          refine tk (v := ?_) 2 ?_ ?_
          rotate_left
          · intro w hSw
            (try dsimp only at hSw)
            first | (go_simp; done) | (go_simp; with_reducible rfl) | with_reducible rfl
          simp only [Act.put, List.setIfInBounds_toArray, List.set_cons_zero, List.set_cons_succ]
          refine tk (v := ?_) 3 ?_ ?_
          rotate_left
          · intro w hSw
            (try dsimp only at hSw)
            first | (go_simp; done) | (go_simp; with_reducible rfl) | with_reducible rfl
          simp only [Act.put, List.setIfInBounds_toArray, List.set_cons_zero, List.set_cons_succ]
          refine tk (v := ?_) 4 ?_ ?_
          rotate_left
          · intro w hSw
            (try dsimp only at hSw)
            first | (go_simp; done) | (go_simp; with_reducible rfl) | with_reducible rfl
          simp only [Act.put, List.setIfInBounds_toArray, List.set_cons_zero, List.set_cons_succ]
          refine tk (v := ?_) 5 ?_ ?_
          rotate_left
          · intro w hSw
            (try dsimp only at hSw)
            first | (go_simp; done) | (go_simp; with_reducible rfl) | with_reducible rfl
          simp only [Act.put, List.setIfInBounds_toArray, List.set_cons_zero, List.set_cons_succ]
          refine tk (v := ?_) 6 ?_ ?_
          rotate_left
          · intro w hSw
            (try dsimp only at hSw)
            first | (go_simp; done) | (go_simp; with_reducible rfl) | with_reducible rfl
          simp only [Act.put, List.setIfInBounds_toArray, List.set_cons_zero, List.set_cons_succ]
          refine tk (v := ?_) 7 ?_ ?_
          rotate_left
          · intro w hSw
            (try dsimp only at hSw)
            first | (go_simp; done) | (go_simp; with_reducible rfl) | with_reducible rfl
          simp only [Act.put, List.setIfInBounds_toArray, List.set_cons_zero, List.set_cons_succ]
          refine tk (v := ?_) 8 ?_ ?_
          rotate_left
          · intro w hSw
            (try dsimp only at hSw)
            first | (go_simp; done) | (go_simp; with_reducible rfl) | with_reducible rfl
          simp only [Act.put, List.setIfInBounds_toArray, List.set_cons_zero, List.set_cons_succ]
          refine tk (v := ?_) 9 ?_ ?_
          rotate_left
          · intro w hSw
            (try dsimp only at hSw)
            first | (go_simp; done) | (go_simp; with_reducible rfl) | with_reducible rfl
          simp only [Act.put, List.setIfInBounds_toArray, List.set_cons_zero, List.set_cons_succ]
          refine tk (v := ?_) 10 ?_ ?_
          rotate_left
          · intro w hSw
            (try dsimp only at hSw)
            first | (go_simp; done) | (go_simp; with_reducible rfl) | with_reducible rfl
          simp only [Act.put, List.setIfInBounds_toArray, List.set_cons_zero, List.set_cons_succ]
          refine tk (v := ?_) 11 ?_ ?_
          rotate_left
          · intro w hSw
            (try dsimp only at hSw)
            first | (go_simp; done) | (go_simp; with_reducible rfl) | with_reducible rfl
          simp only [Act.put, List.setIfInBounds_toArray, List.set_cons_zero, List.set_cons_succ]
          refine tk (v := ?_) 12 ?_ ?_
          rotate_left
          · intro w hSw
            (try dsimp only at hSw)
            first | (go_simp; done) | (go_simp; with_reducible rfl) | with_reducible rfl
          simp only [Act.put, List.setIfInBounds_toArray, List.set_cons_zero, List.set_cons_succ]
          refine tk (v := ?_) 13 ?_ ?_
          rotate_left
          · intro w hSw
            (try dsimp only at hSw)
            first | (go_simp; done) | (go_simp; with_reducible rfl) | with_reducible rfl
          simp only [Act.put, List.setIfInBounds_toArray, List.set_cons_zero, List.set_cons_succ]
          refine wpAnyH_ready (rs := [14]) (by kernel_rfl) (by simp) ?_
          refine AllReadyH.cons rfl (fun K hK => ?_) AllReadyH.nil
          go_simp
          (rw [HM3.out]; go_at_call 159; refine (HD.out _).mono ?_; rintro e w3 ⟨rfl, rfl⟩)
          try dsimp only
          refine hK.out _ _ c1 (fun hHeld14 => ?_)
          clear hK K
          try simp only [Act.put, List.setIfInBounds_toArray, List.set_cons_zero, List.set_cons_succ]
          refine tk (v := ?_) 15 ?_ ?_
          rotate_left
          · intro w hSw
            (try dsimp only at hSw)
            first | (go_simp; done) | (go_simp; with_reducible rfl) | with_reducible rfl
          simp only [Act.put, List.setIfInBounds_toArray, List.set_cons_zero, List.set_cons_succ]
          refine tk (v := ?_) 16 ?_ ?_
          rotate_left
          · intro w hSw
            (try dsimp only at hSw)
            first | (go_simp; done) | (go_simp; with_reducible rfl) | with_reducible rfl
          simp only [Act.put, List.setIfInBounds_toArray, List.set_cons_zero, List.set_cons_succ]
          refine wpAnyH_done (by kernel_rfl) ?_ _
          go_wp2_with fail
          exact ⟨⟨k + 1, _, by have := HK.out; congr 1; omega, rfl, by omega, HT.out, HN.out.drew⟩, by simp [intOf]; omega⟩
        · have hk0 : (0 : Int) < (K : Int) := by have := HK.out; omega
          have HT := hid (show b ++ ⟨#[58]⟩ ++ mkB G = mkB (Lib.join (L.take (k + 1)) [58]) by
            rw [HO.out, show (⟨#[58]⟩ : ByteArray) = mkB [58] from rfl, mkB_app, mkB_app, ← HGk.out, join_take hkL h0]
            simp)
          have hs1 : (⟨#[58]⟩ : ByteArray).size = 1 := rfl
          have hs2 : (b ++ ⟨#[58]⟩ : ByteArray).size = b.size + 1 := by rw [ByteArray.size_append]; rfl
          clear h0
          go_wp2_with fail
          refine wp_region_held_drew (S := (fun w' => w'.cell? ⟨w.heap.size, 1, none⟩ = some (.string ip))) (by kernel_rfl) c1 (fun hHeld => ?_)
          refine tk (v := ?_) 0 ?_ ?_
          rotate_left
          · intro w hSw
            (try dsimp only at hSw)
            first | (go_simp; done) | (go_simp; with_reducible rfl) | with_reducible rfl
          simp only [Act.put, List.setIfInBounds_toArray, List.set_cons_zero, List.set_cons_succ]
          refine tk (v := ?_) 1 ?_ ?_
          rotate_left
          · intro w hSw
            (try dsimp only at hSw)
            first | (go_simp; done) | (go_simp; with_reducible rfl) | with_reducible rfl
          simp only [Act.put, List.setIfInBounds_toArray, List.set_cons_zero, List.set_cons_succ]
          refine tk (v := ?_) 2 ?_ ?_
          rotate_left
          · intro w hSw
            (try dsimp only at hSw)
            first | (go_simp; done) | (go_simp; with_reducible rfl) | with_reducible rfl
          simp only [Act.put, List.setIfInBounds_toArray, List.set_cons_zero, List.set_cons_succ]
          refine tk (v := ?_) 3 ?_ ?_
          rotate_left
          · intro w hSw
            (try dsimp only at hSw)
            first | (go_simp; done) | (go_simp; with_reducible rfl) | with_reducible rfl
          simp only [Act.put, List.setIfInBounds_toArray, List.set_cons_zero, List.set_cons_succ]
          refine tk (v := ?_) 4 ?_ ?_
          rotate_left
          · intro w hSw
            (try dsimp only at hSw)
            first | (go_simp; done) | (go_simp; with_reducible rfl) | with_reducible rfl
          simp only [Act.put, List.setIfInBounds_toArray, List.set_cons_zero, List.set_cons_succ]
          refine tk (v := ?_) 5 ?_ ?_
          rotate_left
          · intro w hSw
            (try dsimp only at hSw)
            first | (go_simp; done) | (go_simp; with_reducible rfl) | with_reducible rfl
          simp only [Act.put, List.setIfInBounds_toArray, List.set_cons_zero, List.set_cons_succ]
          refine tk (v := ?_) 6 ?_ ?_
          rotate_left
          · intro w hSw
            (try dsimp only at hSw)
            first | (go_simp; done) | (go_simp; with_reducible rfl) | with_reducible rfl
          simp only [Act.put, List.setIfInBounds_toArray, List.set_cons_zero, List.set_cons_succ]
          refine tk (v := ?_) 7 ?_ ?_
          rotate_left
          · intro w hSw
            (try dsimp only at hSw)
            first | (go_simp; done) | (go_simp; with_reducible rfl) | with_reducible rfl
          simp only [Act.put, List.setIfInBounds_toArray, List.set_cons_zero, List.set_cons_succ]
          refine tk (v := ?_) 8 ?_ ?_
          rotate_left
          · intro w hSw
            (try dsimp only at hSw)
            first | (go_simp; done) | (go_simp; with_reducible rfl) | with_reducible rfl
          simp only [Act.put, List.setIfInBounds_toArray, List.set_cons_zero, List.set_cons_succ]
          refine tk (v := ?_) 9 ?_ ?_
          rotate_left
          · intro w hSw
            (try dsimp only at hSw)
            first | (go_simp; done) | (go_simp; with_reducible rfl) | with_reducible rfl
          simp only [Act.put, List.setIfInBounds_toArray, List.set_cons_zero, List.set_cons_succ]
          refine tk (v := ?_) 10 ?_ ?_
          rotate_left
          · intro w hSw
            (try dsimp only at hSw)
            first | (go_simp; done) | (go_simp; with_reducible rfl) | with_reducible rfl
          simp only [Act.put, List.setIfInBounds_toArray, List.set_cons_zero, List.set_cons_succ]
          refine tk (v := ?_) 11 ?_ ?_
          rotate_left
          · intro w hSw
            (try dsimp only at hSw)
            first | (go_simp; done) | (go_simp; with_reducible rfl) | with_reducible rfl
          simp only [Act.put, List.setIfInBounds_toArray, List.set_cons_zero, List.set_cons_succ]
          refine tk (v := ?_) 12 ?_ ?_
          rotate_left
          · intro w hSw
            (try dsimp only at hSw)
            first | (go_simp; done) | (go_simp; with_reducible rfl) | with_reducible rfl
          simp only [Act.put, List.setIfInBounds_toArray, List.set_cons_zero, List.set_cons_succ]
          refine tk (v := ?_) 13 ?_ ?_
          rotate_left
          · intro w hSw
            (try dsimp only at hSw)
            first | (go_simp; done) | (go_simp; with_reducible rfl) | with_reducible rfl
          simp only [Act.put, List.setIfInBounds_toArray, List.set_cons_zero, List.set_cons_succ]
          refine wpAnyH_ready (rs := [14]) (by kernel_rfl) (by simp) ?_
          refine AllReadyH.cons rfl (fun K hK => ?_) AllReadyH.nil
          go_simp
          (rw [HM3.out]; go_at_call 159; refine (HD.out _).mono ?_; rintro e w3 ⟨rfl, rfl⟩)
          try dsimp only
          refine hK.out _ _ c1 (fun hHeld14 => ?_)
          clear hK K
          try simp only [Act.put, List.setIfInBounds_toArray, List.set_cons_zero, List.set_cons_succ]
          refine tk (v := ?_) 15 ?_ ?_
          rotate_left
          · intro w hSw
            (try dsimp only at hSw)
            first | (go_simp; done) | (go_simp; with_reducible rfl) | with_reducible rfl
          simp only [Act.put, List.setIfInBounds_toArray, List.set_cons_zero, List.set_cons_succ]
          refine tk (v := ?_) 16 ?_ ?_
          rotate_left
          · intro w hSw
            (try dsimp only at hSw)
            first | (go_simp; done) | (go_simp; with_reducible rfl) | with_reducible rfl
          simp only [Act.put, List.setIfInBounds_toArray, List.set_cons_zero, List.set_cons_succ]
          refine wpAnyH_done (by kernel_rfl) ?_ _
          go_wp2_with fail
          exact ⟨⟨k + 1, _, by have := HK.out; congr 1; omega, rfl, by omega, HT.out, HN.out.drew⟩, by simp [intOf]; omega⟩
      · have hk8 : k = 8 := by omega
        have hltI : ¬ (K : Int) < 16 := by omega
        subst hk8
        clear hK hlt
        have HB := hid (show b = mkB (Lib.join L [58]) by rw [HO.out, List.take_of_length_le (by omega)])
        have hs1 : (⟨#[91]⟩ : ByteArray).size = 1 := rfl
        have hs2 : (⟨#[91]⟩ ++ b : ByteArray).size = 1 + b.size := by rw [ByteArray.size_append]; rfl
        have hs3 : (⟨#[91]⟩ ++ b ++ ⟨#[93, 58]⟩ : ByteArray).size = 1 + b.size + 2 := by rw [ByteArray.size_append, hs2]; rfl
        go_wp2_with fail
        refine (HDP.out _).mono ?_
        rintro e w2 ⟨rfl, n2⟩
        have N2 := hid ((NA.out.trans HN.out).trans n2)
        clear n2
        go_wp2
        go_ret
        exact ⟨ret_str (by rw [HB.out, HR.out, show (⟨#[91]⟩ : ByteArray) = mkB [91] from rfl, show (⟨#[93, 58]⟩ : ByteArray) = mkB [93, 58] from rfl, mkB_app, mkB_app, mkB_app]; simp), N2.out⟩
end Go.Proofs.YtbgmkplpolgebaaGreatDoor

namespace Go.Proofs.YtbgmkplpolgebaaGreatDoor
set_option linter.unusedSimpArgs false
set_option linter.unusedVariables false

def wtL : List (List UInt8) → Nat
  | [] => 0
  | x :: L => x.length + 1 + wtL L
theorem wtL_app : ∀ (A B : List (List UInt8)), wtL (A ++ B) = wtL A + wtL B
  | [], B => by simp [wtL]
  | x :: A, B => by
    show x.length + 1 + wtL (A ++ B) = x.length + 1 + wtL A + wtL B
    rw [wtL_app A B]
    omega
theorem wtL_le {M : Nat} : ∀ (L : List (List UInt8)), (∀ x ∈ L, x.length ≤ M) → wtL L ≤ L.length * (M + 1)
  | [], _ => by simp [wtL]
  | x :: L, h => by
    have h1 := wtL_le L (fun y hy => h y (by simp [hy]))
    have h2 := h x (by simp)
    show x.length + 1 + wtL L ≤ _
    rw [List.length_cons, Nat.add_mul]
    omega
theorem joinTail_wt (c : UInt8) : ∀ (L : List (List UInt8)), (Lib.joinTail [c] L).length = wtL L
  | [] => by simp [Lib.joinTail, wtL]
  | x :: L => by
    have e : Lib.joinTail [c] (x :: L) = c :: (x ++ Lib.joinTail [c] L) := by simp [Lib.joinTail]
    rw [e, List.length_cons, List.length_append, joinTail_wt c L]
    show x.length + wtL L + 1 = x.length + 1 + wtL L
    omega
theorem join_wt (c : UInt8) (L : List (List UInt8)) : (Lib.join L [c]).length ≤ wtL L := by
  cases L with
  | nil => simp [Lib.join]
  | cons x L =>
    rw [Lib.join_cons, List.length_append, joinTail_wt]
    show x.length + wtL L ≤ x.length + 1 + wtL L
    omega
theorem atxt_len {x : AdrV} (h : adrOk x = true) : (atxt x).length ≤ 130 := by
  obtain ⟨h1, h2, h3⟩ := adrOk_iff.1 h
  have hp := dec_len5 (m := x.port.toNat) (by omega)
  have hb : (bodyT x).length ≤ 100 := by
    unfold bodyT
    rcases h1 with ⟨q1, q2⟩ | ⟨q1, q2⟩
    · rw [if_pos q1]
      have := join_len 46 21 (x.ip.data.toList.map (fun b => Lib.decDigits b.toNat)) (fun y hy => by
        obtain ⟨b, -, rfl⟩ := List.mem_map.1 hy
        have := b.toNat_lt
        exact dec_len5 (by omega))
      rw [List.length_map, size_data] at this
      omega
    · rw [if_neg (by omega)]
      obtain ⟨e1, e2, e3⟩ := pairs_forth 8 x.ip.data.toList (by rw [size_data]; omega)
      have := join_len 58 4 ((pairsN x.ip.data.toList).map hexG) (fun y hy => by
        obtain ⟨n, hn, rfl⟩ := List.mem_map.1 hy
        exact hexG_len n (e3 n hn))
      rw [List.length_map, e2] at this
      rw [List.length_cons, List.length_append, List.length_singleton]
      omega
  unfold atxt
  rw [List.length_append, List.length_cons]
  omega
theorem keyT_len (k : ByteArray) (v : List UInt8) : (keyT k v).length = k.size + 1 + v.length := by
  unfold keyT
  rw [List.length_append, List.length_cons, size_data]
  omega
theorem optT_wt (x k : ByteArray) (v : List UInt8) : wtL (optT x k v) ≤ k.size + 2 + v.length := by
  unfold optT
  split
  · simp [wtL]
  · show (keyT k v).length + 1 + 0 ≤ _
    rw [keyT_len]
    omega
theorem listT_wt {k : ByteArray} (hk : k.size = 2) {L : List ByteArray} (h : L.all textM = true) : wtL (listT k L) ≤ L.length * 604 := by
  have := wtL_le (M := 603) (listT k L) (fun y hy => by
    obtain ⟨s, hs, rfl⟩ := List.mem_map.1 hy
    have q := List.all_eq_true.1 h s hs
    have q2 : s.size ≤ 200 := by
      unfold textM at q
      rw [Bool.and_eq_true, decide_eq_true_iff, decide_eq_true_iff] at q
      exact q.2
    have q3 := eOf_len s.data.toList
    rw [size_data] at q3
    rw [keyT_len]
    omega)
  unfold listT at *
  rw [List.length_map] at this
  exact this
theorem peT_wt {L : List AdrV} (h : L.all adrOk = true) : wtL (peT L) ≤ L.length * 396 := by
  have := wtL_le (M := 395) (peT L) (fun y hy => by
    obtain ⟨s, hs, rfl⟩ := List.mem_map.1 hy
    have q := atxt_len (List.all_eq_true.1 h s hs)
    have q3 := eOf_len (atxt s)
    rw [keyT_len, show pPe.size = 4 from rfl]
    omega)
  unfold peT at *
  rw [List.length_map] at this
  exact this
theorem txt_len40 {S : List UInt8} (hS : FieldOf 40 S) : (txtR (runsF 40 S)).length ≤ 1760 := by
  have hg := runs_good (n := 40) (numsL 40 S) (fun i hi => numsL_lt hi)
  have hl := numsL_le 40 S
  have := join_len 44 43 ((runsF 40 S).map pieceT) (fun y hy => by
    obtain ⟨r, hr, rfl⟩ := List.mem_map.1 hy
    obtain ⟨g1, g2, g3⟩ := hg.1 r hr
    have := piece_size g1 (by omega) g2
    unfold pieceB at this
    rw [show (mkB (pieceT r)).size = (pieceT r).length by simp [mkB, ByteArray.size]] at this
    exact this)
  rw [List.length_map] at this
  have h2 := hg.2
  unfold txtR
  have h3 : (runsF 40 S).length ≤ 40 := by show (runsN (numsL 40 S)).length ≤ 40; omega
  have h4 : (runsF 40 S).length * (43 + 1) ≤ 40 * (43 + 1) := Nat.mul_le_mul_right _ h3
  omega
theorem onT_wt {S : List UInt8} (hS : FieldOf 40 S) : wtL (onT (runsF 40 S)) ≤ 1764 := by
  have := txt_len40 hS
  unfold onT
  split
  · simp [wtL]
  · show (keyT pSo _).length + 1 + 0 ≤ _
    rw [keyT_len, show pSo.size = 2 from rfl]
    omega
theorem parts_wt {m : MgV} (h : VOk m) : wtL (mgParts m) ≤ 24000 := by
  obtain ⟨S, hS, -, hms⟩ := onB_field h.on
  unfold mgParts topsT namT
  simp only [wtL_app]
  have l1 := h.trl; have l2 := h.wsl; have l3 := h.pel; have l4 := h.name
  have o1 := optT_wt m.old pXt (uOld.data.toList ++ hexOf m.old.data.toList)
  have o2 := optT_wt m.new pXt (uNew.data.toList ++ hexOf m.new.data.toList)
  have o3 := optT_wt m.name pDn (eOf m.name.data.toList)
  rw [List.length_append, hexOf_len, size_data, size_data, show uOld.size = 8 from rfl, show pXt.size = 2 from rfl] at o1
  rw [List.length_append, hexOf_len, size_data, size_data, show uNew.size = 8 from rfl, show pXt.size = 2 from rfl] at o2
  have e3 := eOf_len m.name.data.toList
  rw [size_data] at e3
  rw [show pDn.size = 2 from rfl] at o3
  have w1 := listT_wt (k := pTr) rfl h.tr
  have w2 := listT_wt (k := pWs) rfl h.ws
  have w3 := peT_wt h.pe
  have w4 := onT_wt hS
  rw [← hms] at w4
  have s1 := h.old; have s2 := h.new
  omega
theorem magT_len {m : MgV} (h : VOk m) : (magT m).length ≤ 24008 := by
  have h1 := parts_wt h
  have h2 := join_wt 38 (mgParts m)
  unfold magT
  rw [List.length_append, show kHead.length = 8 from rfl]
  omega
theorem parts_ne {m : MgV} (h : VOk m) : mgParts m ≠ [] := by
  intro q
  unfold mgParts topsT at q
  simp only [List.append_eq_nil_iff] at q
  obtain ⟨⟨⟨⟨⟨⟨q1, q2⟩, -⟩, -⟩, -⟩, -⟩, -⟩ := q
  refine h.one ⟨?_, ?_⟩
  · unfold optT at q1
    split at q1
    · next e => exact e
    · cases q1
  · unfold optT at q2
    split at q2
    · next e => exact e
    · cases q2
theorem join_ne {L : List (List UInt8)} (h : L ≠ []) (hx : ∀ x ∈ L, x ≠ []) : Lib.join L [38] ≠ [] := by
  cases L with
  | nil => exact absurd rfl h
  | cons x L =>
    intro q
    rw [Lib.join_cons] at q
    exact hx x (by simp) (List.append_eq_nil_iff.1 q).1
theorem keyT_ne (k : ByteArray) (v : List UInt8) : keyT k v ≠ [] := by
  unfold keyT
  intro q
  have := (List.append_eq_nil_iff.1 q).2
  cases this
theorem parts_nonempty {m : MgV} : ∀ x ∈ mgParts m, x ≠ [] := by
  intro y hy
  unfold mgParts topsT namT optT listT peT onT at hy
  simp only [List.mem_append, List.mem_map] at hy
  rcases hy with ((((((hy | hy) | hy) | ⟨s, -, rfl⟩) | ⟨s, -, rfl⟩) | ⟨s, -, rfl⟩) | hy)
  · split at hy
    · cases hy
    · simp only [List.mem_singleton] at hy
      subst hy
      exact keyT_ne _ _
  · split at hy
    · cases hy
    · simp only [List.mem_singleton] at hy
      subst hy
      exact keyT_ne _ _
  · split at hy
    · cases hy
    · simp only [List.mem_singleton] at hy
      subst hy
      exact keyT_ne _ _
  · exact keyT_ne _ _
  · exact keyT_ne _ _
  · exact keyT_ne _ _
  · split at hy
    · cases hy
    · simp only [List.mem_singleton] at hy
      subst hy
      exact keyT_ne _ _
/-- The magnet is read of its text. -/
theorem magP_txt {m : MgV} (h : VOk m) : magP (magT m) = .ok { m with named := decide (m.name.size ≠ 0), only := decide (m.on ≠ []) } := by
  have hl := magT_len h
  unfold magP
  rw [if_neg (by omega)]
  have hp : kHead.isPrefixOf (magT m) = true := by
    rw [List.isPrefixOf_iff_prefix]
    exact List.prefix_append _ _
  rw [if_pos hp]
  have hd : (magT m).drop 8 = Lib.join (mgParts m) [38] := List.drop_left (l₁ := kHead)
  rw [hd]
  unfold restM
  rw [if_neg (join_ne (parts_ne h) parts_nonempty), pieces_joinC (parts_ne h) (parts_free h), fold_parts h]
  simp only
  unfold endM
  rw [if_neg]
  rintro ⟨q1, q2⟩
  simp only at q1 q2
  refine h.one ⟨?_, ?_⟩
  · have := size_data m.old
    rw [q1] at this
    simpa using this.symm
  · have := size_data m.new
    rw [q2] at this
    simpa using this.symm
end Go.Proofs.YtbgmkplpolgebaaGreatDoor
