/-
  Several texts in one, in their build order. The walk of addr.Text, second part: addresses of six; Text. Conditions: the address is right; the library's variables are as laid. The walk of addr.Text. Conditions: the address is right; the library's variables are as laid. The walk of Format (package magnet). Conditions: the magnet lies as told; the library's variables are as laid.
-/
import Derived.Test.YtbgmkplpolgebaaGreatDoorM39
import Derived.Test.YtbgmkplpolgebaaGreatDoorM43
import Derived.Laws.BitsLemmas
import Derived.Test.YtbgmkplpolgebaaGreatDoorM26
import Derived.Test.YtbgmkplpolgebaaGreatDoorM38
import Derived.Test.YtbgmkplpolgebaaGreatDoorM5
import Derived.Test.YtbgmkplpolgebaaGreatDoorM18
import Derived.Test.YtbgmkplpolgebaaGreatDoorM32
import Derived.Deep.CutBlock
namespace Go.Proofs.YtbgmkplpolgebaaGreatDoor
set_option linter.unusedSimpArgs false
set_option linter.unusedVariables false
open Go.RowKit Go.Shelf

def hexB (n : Nat) : ByteArray := mkB (hexG n)
theorem hexB_join (l : List Nat) : Lib.join ((l.map hexB).map (·.data.toList)) [58] = Lib.join (l.map hexG) [58] := by
  rw [List.map_map]
  rfl
theorem or_pair (a b : Nat) (ha : a < 256) (hb : b < 256) : bits .or .i64 ((a : Int) * 256) (b : Int) = ((a * 256 + b : Nat) : Int) := by
  have h := bits_join .i64 32 (by decide) (fun n h0 h1 => by rw [IntKind.wrap_i64]; omega) 8 ((a : Int) * 256) (b : Int) (by omega) (by omega) (by omega) (by omega) (by omega) (by omega)
  rw [h]
  omega
set_option maxRecDepth 100000 in
set_option maxHeartbeats 8000000 in
theorem six_text (ip : ByteArray) (hs : ip.size = 16) (w : World) (hv : VarP w) :
    Calls Tryz.prog 243 #[.agg #[], .string ip] w fun e w' => e = .returned (.string (mkB (91 :: (Lib.join ((pairsN ip.data.toList).map hexG) [58] ++ [93])))) ∧ New w w' := by
  obtain ⟨i1, hj, hy0, hy1, hy2⟩ := info_parts info_str
  have HV := hid (fun W (n : New w W) => hv.new n)
  have hdl : ip.data.toList.length = 16 := by rw [Array.length_toList]; exact hs
  obtain ⟨e1, e2, e3⟩ := pairs_forth 8 ip.data.toList (by omega)
  have HAT := hid (fun (k J K : Nat) (hJ : J = 2 * k) (hK : K = J + 1) (hk : k < 8) => show (pairsN ip.data.toList)[k]? = some ((ip[J]'(by omega)).toNat * 256 + (ip[K]'(by omega)).toNat) by
    subst hJ hK
    have := pairs_get 8 ip.data.toList (by omega) k (by omega)
    exact this)
  obtain ⟨L, hL⟩ : ∃ L, L = pairsN ip.data.toList := ⟨_, rfl⟩
  rw [← hL] at HAT e2 e3
  rw [← hL]
  have HL3 := hid e3
  clear hv hL e1 e3 hdl
  go_enter Tryz.func243, Tryz.ntmps243
  go_wp2
  go_loopw [6, 5] (fun i o wr => ∃ (k J : Nat) (v : Value) (P : List ByteArray), i = .int .i64 J ∧ v = o ∧ J = 2 * k ∧ k ≤ 8 ∧ P = (L.take k).map hexB ∧ OwnT wr w.heap.size v P ∧ New w wr) (fun i _ _ => 16 - (intOf i).toNat)
  case atStart => exact ⟨0, 0, _, [], rfl, rfl, rfl, by omega, by simp, OwnT.nil _ _, (Mod.refl _ _).alloc _⟩
  case round =>
    obtain ⟨k, J, v, P, rfl, rfl, hJ, hk, hP, hO, hN⟩ := hrel
    have HP := hid hP; have HO := hid hO; have HN := hid hN; have HJJ := hid hJ
    have hPl : P.length = k := by rw [hP, List.length_map, List.length_take]; omega
    clear hP hO hN
    by_cases hlt : k < 8
    · have hltI : (J : Int) < 16 := by omega
      have hks : J < ip.size := by omega
      obtain ⟨K, hK⟩ : ∃ K, K = J + 1 := ⟨_, rfl⟩
      have hks2 : K < ip.size := by omega
      have hksI : (J : Int) < (ip.size : Int) := by omega
      have hksI2 : (K : Int) < (ip.size : Int) := by omega
      have hltK : (K : Int) < 16 := by omega
      have hltN : K < 16 := by omega
      have hltM : J < 16 := by omega
      have hg := HAT.out k J K hJ hK hlt
      have HTK := hid (show (L.take (k + 1)).map hexB = (L.take k).map hexB ++ [mkB (hexG (ip[J].toNat * 256 + ip[K].toNat))] by
        rw [List.take_add_one, hg]
        simp [hexB])
      have hb := ip[J].toNat_lt
      have hc := ip[K].toNat_lt
      have hle : ip[J].toNat * 256 + ip[K].toNat ≤ 65535 := by omega
      have hwp : IntKind.i64.wrap ((ip[J].toNat : Nat) : Int) = ((ip[J].toNat : Nat) : Int) := by rw [IntKind.wrap_i64]; omega
      have hwq : IntKind.i64.wrap ((ip[K].toNat : Nat) : Int) = ((ip[K].toNat : Nat) : Int) := by rw [IntKind.wrap_i64]; omega
      have hwr : IntKind.i64.wrap (((ip[J].toNat : Nat) : Int) * 256) = ((ip[J].toNat : Nat) : Int) * 256 := by rw [IntKind.wrap_i64]; omega
      have hws : IntKind.i64.wrap ((J : Int) + 1) = (K : Int) := by rw [IntKind.wrap_i64]; omega
      have hor := or_pair ip[J].toNat ip[K].toNat hb hc
      have HI := hid (fun W (q : New wr W) => fmti_any (ip[J].toNat * 256 + ip[K].toNat) hle W (HV.out W (HN.out.trans q)))
      have hPk : P.length ≤ 8 := by omega
      have HPL := hid hPl
      clear hg hJ hPl e2 hK
      go_wp2_with fail
      refine wp_region_held_drew (S := (fun _ => True)) (by kernel_rfl) trivial (fun hHeld => ?_)
      refine tk (v := ?_) 0 ?_ ?_
      rotate_left
      · intro w hSw
        (try dsimp only at hSw)
        first | (go_simp; done) | (go_simp; with_reducible rfl) | with_reducible rfl
      simp only [Act.put, List.setIfInBounds_toArray, List.set_cons_zero, List.set_cons_succ]
      refine tk (v := ?_) 1 ?_ ?_
      rotate_left
      · intro w hSw
        (try dsimp only at hSw)
        first | (go_simp; done) | (go_simp; with_reducible rfl) | with_reducible rfl
      simp only [Act.put, List.setIfInBounds_toArray, List.set_cons_zero, List.set_cons_succ]
      refine tk (v := ?_) 2 ?_ ?_
      rotate_left
      · intro w hSw
        (try dsimp only at hSw)
        first | (go_simp; done) | (go_simp; with_reducible rfl) | with_reducible rfl
      simp only [Act.put, List.setIfInBounds_toArray, List.set_cons_zero, List.set_cons_succ]
      refine tk (v := ?_) 3 ?_ ?_
      rotate_left
      · intro w hSw
        (try dsimp only at hSw)
        first | (go_simp; done) | (go_simp; with_reducible rfl) | with_reducible rfl
      simp only [Act.put, List.setIfInBounds_toArray, List.set_cons_zero, List.set_cons_succ]
      refine tk (v := ?_) 4 ?_ ?_
      rotate_left
      · intro w hSw
        (try dsimp only at hSw)
        first | (go_simp; done) | (go_simp; with_reducible rfl) | with_reducible rfl
      simp only [Act.put, List.setIfInBounds_toArray, List.set_cons_zero, List.set_cons_succ]
      refine tk (v := ?_) 5 ?_ ?_
      rotate_left
      · intro w hSw
        (try dsimp only at hSw)
        first | (go_simp; done) | (go_simp; with_reducible rfl) | with_reducible rfl
      simp only [Act.put, List.setIfInBounds_toArray, List.set_cons_zero, List.set_cons_succ]
      refine tk (v := ?_) 6 ?_ ?_
      rotate_left
      · intro w hSw
        (try dsimp only at hSw)
        first | (go_simp; done) | (go_simp; with_reducible rfl) | with_reducible rfl
      simp only [Act.put, List.setIfInBounds_toArray, List.set_cons_zero, List.set_cons_succ]
      refine tk (v := ?_) 7 ?_ ?_
      rotate_left
      · intro w hSw
        (try dsimp only at hSw)
        first | (go_simp; done) | (go_simp; with_reducible rfl) | with_reducible rfl
      simp only [Act.put, List.setIfInBounds_toArray, List.set_cons_zero, List.set_cons_succ]
      refine tk (v := ?_) 8 ?_ ?_
      rotate_left
      · intro w hSw
        (try dsimp only at hSw)
        first | (go_simp; done) | (go_simp; with_reducible rfl) | with_reducible rfl
      simp only [Act.put, List.setIfInBounds_toArray, List.set_cons_zero, List.set_cons_succ]
      refine tk (v := ?_) 9 ?_ ?_
      rotate_left
      · intro w hSw
        (try dsimp only at hSw)
        first | (go_simp; done) | (go_simp; with_reducible rfl) | with_reducible rfl
      simp only [Act.put, List.setIfInBounds_toArray, List.set_cons_zero, List.set_cons_succ]
      refine tk (v := ?_) 10 ?_ ?_
      rotate_left
      · intro w hSw
        (try dsimp only at hSw)
        first | (go_simp; done) | (go_simp; with_reducible rfl) | with_reducible rfl
      simp only [Act.put, List.setIfInBounds_toArray, List.set_cons_zero, List.set_cons_succ]
      refine tk (v := ?_) 11 ?_ ?_
      rotate_left
      · intro w hSw
        (try dsimp only at hSw)
        first | (go_simp; done) | (go_simp; with_reducible rfl) | with_reducible rfl
      simp only [Act.put, List.setIfInBounds_toArray, List.set_cons_zero, List.set_cons_succ]
      refine wpAnyH_ready (rs := [12]) (by kernel_rfl) (by simp) ?_
      refine AllReadyH.cons (by simp only [List.getElem?_toArray, List.getElem?_cons_succ, List.getElem?_cons_zero]; rfl) (fun K hK => ?_) AllReadyH.nil
      go_simp
      (go_at_call 244; refine (HI.out _ ((Mod.refl _ _).drew)).mono ?_; rintro e w3 ⟨rfl, n3⟩; have HO3 := hid (HO.out.new ((Mod.refl (fun _ => False) wr).drew.trans n3)); have N3 := hid ((HN.out.drew).trans n3); clear n3)
      try dsimp only
      refine hK.out _ _ trivial (fun hHeld12 => ?_)
      clear hK K hHeld12
      try simp only [Act.put, List.setIfInBounds_toArray, List.set_cons_zero, List.set_cons_succ]
      refine wpAnyH_ready (rs := [13]) (by kernel_rfl) (by simp) ?_
      refine AllReadyH.cons (by simp only [List.getElem?_toArray, List.getElem?_cons_succ, List.getElem?_cons_zero]; rfl) (fun K hK => ?_) AllReadyH.nil
      go_simp
      refine hK.out _ _ trivial (fun hHeld13 => ?_)
      clear hK K hHeld13
      try simp only [Act.put, List.setIfInBounds_toArray, List.set_cons_zero, List.set_cons_succ]
      obtain ⟨o3, w4, hr, r3, g3, -, -⟩ := run_append_own_at (P := Tryz.prog) (w3.alloc (.cells #[.string (mkB (hexG (ip[J].toNat * 256 + ip[K].toNat)))] 9)) w.heap.size 23 23 9 i1 _ 1 16 Tryz.underlying23 hj hy0 hy1 hy2 rfl (by decide)
        v P.length (P.map Value.string) (HO3.out.new ((Mod.refl _ _).alloc _)) ⟨w3.heap.size, 0, none⟩ 1 1 [.string (mkB (hexG (ip[J].toNat * 256 + ip[K].toNat)))] rfl (cell_one_new _ _ _) (by intro u hu; simp at hu; subst hu; rfl) (by unfold maxLen; omega) (by omega) (by have := N3.out.size; simp; omega)
      have O3 : Hid (OwnT w4 w.heap.size o3 (P ++ [mkB (hexG (ip[J].toNat * 256 + ip[K].toNat))])) := hid (own_pushT r3 rfl rfl)
      have N4 : Hid (New w w4) := hid (newGrown (N3.out.alloc _) g3 (fun j hj => (World.ownsRow.lt HO3.out j hj).1))
      clear r3 g3
      refine wpAnyH_ready (rs := [14]) (by kernel_rfl) (by simp) ?_
      refine AllReadyH.cons (by simp only [List.getElem?_toArray, List.getElem?_cons_succ, List.getElem?_cons_zero]; rfl) (fun K hK => ?_) AllReadyH.nil
      rw [if_pos (by rfl)]
      refine op_appendM _ _ _ rfl rfl rfl hr ?_
      simp only [Act.put, List.setIfInBounds_toArray, List.set_cons_zero, List.set_cons_succ]
      refine hK.out _ _ trivial (fun hHeld14 => ?_)
      clear hK K
      try simp only [Act.put, List.setIfInBounds_toArray, List.set_cons_zero, List.set_cons_succ]
      refine tk (v := ?_) 15 ?_ ?_
      rotate_left
      · intro w hSw
        (try dsimp only at hSw)
        first | (go_simp; done) | (go_simp; with_reducible rfl) | with_reducible rfl
      simp only [Act.put, List.setIfInBounds_toArray, List.set_cons_zero, List.set_cons_succ]
      refine wpAnyH_done (by kernel_rfl) ?_ _
      go_wp2
      exact ⟨⟨k + 1, J + 2, _, _, by simp, rfl, by have := HJJ.out; omega, by omega, by rw [HTK.out, ← HP.out], O3.out, N4.out⟩, by simp [intOf]; omega⟩
    · obtain rfl : k = 8 := by omega
      have hP := HP.out
      rw [List.take_of_length_le (by omega)] at hP
      have hsz : ∀ x ∈ P, x.size ≤ 43 := by
        intro x hx
        rw [hP] at hx
        obtain ⟨b, hb, rfl⟩ := List.mem_map.1 hx
        have := hexG_len b (HL3.out b hb)
        unfold hexB
        rw [show (mkB (hexG b)).size = (hexG b).length by simp [mkB, ByteArray.size]]
        omega
      obtain ⟨aa, dd, rfl, hst, -⟩ := owns_strs (p := P) HO.out (fun x hx => by have := hsz x hx; unfold maxLen; omega)
      have HJ := hid (join_c 58 aa dd P wr hst (by omega) (fun x hx => by have := hsz x hx; omega))
      rw [hPl] at HJ
      rw [hPl]
      have hjl := join_len 58 43 (P.map (·.data.toList)) (fun y hy => by
        obtain ⟨x, hx, rfl⟩ := List.mem_map.1 hy
        have h1 := hsz x hx
        have h2 : x.data.toList.length = x.size := by rw [Array.length_toList]; rfl
        omega)
      rw [List.length_map, hPl] at hjl
      have HR := hid (show Lib.join (P.map (·.data.toList)) [58] = Lib.join (L.map hexG) [58] by rw [hP, hexB_join])
      obtain ⟨T, hT⟩ : ∃ T, T = Lib.join (P.map (·.data.toList)) [58] := ⟨_, rfl⟩
      rw [← hT] at HJ HR hjl
      have hts : (mkB T).size ≤ 352 := by rw [show (mkB T).size = T.length by simp [mkB, ByteArray.size]]; omega
      have HE := hid (show (⟨#[91]⟩ : ByteArray) ++ mkB T ++ ⟨#[93]⟩ = mkB (91 :: (T ++ [93])) by
        rw [show (⟨#[91]⟩ : ByteArray) = mkB [91] from rfl, show (⟨#[93]⟩ : ByteArray) = mkB [93] from rfl, mkB_app, mkB_app]
        rfl)
      clear hst hsz hP hT
      go_wp2_with fail
      refine HJ.out.mono ?_
      rintro e w3 ⟨rfl, n3⟩
      have N3 := hid (HN.out.trans n3)
      clear n3
      go_wp2
      go_ret
      exact ⟨by rw [← HR.out, ← HE.out]; rfl, N3.out⟩
theorem mtt_4 (v : Value) (w : World) : (method 360 164 v "covey/addr.text").run Tryz.prog w = .ok (238, v) w := by kernel_rfl
theorem mtt_6 (v : Value) (w : World) : (method 360 165 v "covey/addr.text").run Tryz.prog w = .ok (243, v) w := by kernel_rfl
end Go.Proofs.YtbgmkplpolgebaaGreatDoor

namespace Go.Proofs.YtbgmkplpolgebaaGreatDoor
set_option linter.unusedSimpArgs false
set_option linter.unusedVariables false
open Go.RowKit Go.Shelf

set_option maxRecDepth 100000 in
set_option maxHeartbeats 4000000 in
theorem adrText_any (x : AdrV) (w : World) (ok : adrOk x = true) (hv : VarP w) :
    Calls Tryz.prog 54 #[.agg #[.int .i64 x.fam, .string x.ip, .int .i64 x.port]] w fun e w' => e = .returned (.tuple #[.string (mkB (atxt x)), .int .i64 0]) ∧ New w w' := by
  obtain ⟨h1, h2, h3⟩ := adrOk_iff.1 ok
  obtain ⟨fam, ip, port⟩ := x
  simp only at h1 h2 h3 ⊢
  rcases h1 with ⟨rfl, hs⟩ | ⟨rfl, hs⟩
  · have hip : ip.size ≤ maxLen := by unfold maxLen; omega
    have HBT := hid (show mkB (bodyT ⟨4, ip, port⟩) = mkB (Lib.join (ip.data.toList.map (fun b => Lib.decDigits b.toNat)) [46]) by unfold bodyT; rw [if_pos rfl])
    have HTX := hid (fun W (n : New w W) => four_text ip hs W (hv.new n))
    have hbl : (bodyT ⟨4, ip, port⟩).length ≤ 130 := by
      have q := atxt_len ok
      unfold atxt at q
      rw [List.length_append] at q
      omega
    have hTT := HBT.out
    obtain ⟨T, hT⟩ : ∃ T, T = bodyT ⟨4, ip, port⟩ := ⟨_, rfl⟩
    rw [← hT] at hbl hTT
    rw [← hTT] at HTX
    have HI := hid (fun W (n : New w W) => itoa_any port (by omega) (by omega) W (hv.new n).tab)
    have his := itoa_size (n := port) (by omega) (by omega)
    obtain ⟨p, rfl⟩ := Int.eq_ofNat_of_zero_le (show 0 ≤ port by omega)
    have HR := hid (show mkB T ++ ⟨#[58]⟩ ++ itoaB (p : Int) = mkB (atxt ⟨4, ip, (p : Int)⟩) by
      unfold atxt
      rw [← hT, itoa_mk, show (⟨#[58]⟩ : ByteArray) = mkB [58] from rfl, mkB_app, mkB_app]
      simp)
    have hts : (mkB T).size ≤ 130 := by rw [size_list]; exact hbl
    have h58 : (⟨#[58]⟩ : ByteArray).size = 1 := rfl
    have htu : (mkB T ++ ⟨#[58]⟩ : ByteArray).size = (mkB T).size + 1 := by rw [ByteArray.size_append]; rfl
    obtain ⟨S, hS⟩ : ∃ S, S = itoaB (p : Int) := ⟨_, rfl⟩
    rw [← hS] at his HI HR
    have hns1 : ¬ 9223372036854775807 < (mkB T).size + 1 := by omega
    have hns2 : ¬ 9223372036854775807 < (mkB T).size + 1 + S.size := by omega
    have HF := hid (fun w => families_any 4 w)
    rw [famV4] at HF
    have hme := mtt_4 (.agg #[])
    have HVA := hid (fun W => adrValid_any ⟨4, ip, (p : Int)⟩ W hip)
    rw [ok] at HVA
    simp only at HVA
    have B0 := Blk.new w #[.int .i64 4, .string ip, .int .i64 (p : Int)] 64
    have c0 := B0.cellv 0 rfl; have c1 := B0.cellv 1 rfl; have c2 := B0.cellv 2 rfl
    have HB0 := hid B0
    have NA := hid ((Mod.refl (fun _ => False) w).alloc (.cells #[.int .i64 4, .string ip, .int .i64 (p : Int)] 64))
    have cl := B0.lt
    clear B0 ok hT hS hbl hTT hv hip
    go_enter Tryz.func54, Tryz.ntmps54
    go_wp2_with fail
    refine (HVA.out _).mono ?_
    rintro e w1 ⟨rfl, n1⟩
    have B1 := New.blk n1 HB0.out
    have N1 := hid (NA.out.trans n1)
    clear c0 c1 c2 cl n1
    have c0 : w1.cell? ⟨w.heap.size, 0, none⟩ = some (.int .i64 4) := B1.cellv 0 rfl
    have c1 : w1.cell? ⟨w.heap.size, 1, none⟩ = some (.string ip) := B1.cellv 1 rfl
    have c2 : w1.cell? ⟨w.heap.size, 2, none⟩ = some (.int .i64 (p : Int)) := B1.cellv 2 rfl
    clear B1
    go_wp2_with fail
    refine wp_region_held_drew (S := (fun w' => w'.cell? ⟨w.heap.size, 0, none⟩ = some (.int .i64 4) ∧ w'.cell? ⟨w.heap.size, 1, none⟩ = some (.string ip) ∧ w'.cell? ⟨w.heap.size, 2, none⟩ = some (.int .i64 (p : Int)))) (by kernel_rfl) ⟨c0, c1, c2⟩ (fun hHeld => ?_)
    refine tk (v := ?_) 0 ?_ ?_
    rotate_left
    · intro w hSw
      (try dsimp only at hSw)
      first | (go_simp; done) | (go_simp; with_reducible rfl) | with_reducible rfl
    simp only [Act.put, List.setIfInBounds_toArray, List.set_cons_zero, List.set_cons_succ]
    refine tk (v := ?_) 1 ?_ ?_
    rotate_left
    · intro w hSw
      (try dsimp only at hSw)
      first | (go_simp; done) | (go_simp; with_reducible rfl) | with_reducible rfl
    simp only [Act.put, List.setIfInBounds_toArray, List.set_cons_zero, List.set_cons_succ]
    refine tk (v := ?_) 3 ?_ ?_
    rotate_left
    · intro w hSw
      (try dsimp only at hSw)
      first | (go_simp; done) | (go_simp; with_reducible rfl) | with_reducible rfl
    simp only [Act.put, List.setIfInBounds_toArray, List.set_cons_zero, List.set_cons_succ]
    refine tk (v := ?_) 4 ?_ ?_
    rotate_left
    · intro w hSw
      (try dsimp only at hSw)
      first | (go_simp; done) | (go_simp; with_reducible rfl) | with_reducible rfl
    simp only [Act.put, List.setIfInBounds_toArray, List.set_cons_zero, List.set_cons_succ]
    refine tk (v := ?_) 7 ?_ ?_
    rotate_left
    · intro w hSw
      (try dsimp only at hSw)
      first | (go_simp; done) | (go_simp; with_reducible rfl) | with_reducible rfl
    simp only [Act.put, List.setIfInBounds_toArray, List.set_cons_zero, List.set_cons_succ]
    refine tk (v := ?_) 8 ?_ ?_
    rotate_left
    · intro w hSw
      (try dsimp only at hSw)
      first | (go_simp; done) | (go_simp; with_reducible rfl) | with_reducible rfl
    simp only [Act.put, List.setIfInBounds_toArray, List.set_cons_zero, List.set_cons_succ]
    refine wpAnyH_ready (rs := [2]) (by kernel_rfl) (by simp) ?_
    refine AllReadyH.cons rfl (fun K hK => ?_) AllReadyH.nil
    go_simp
    (go_at_call 93; refine (HF.out _).mono ?_; rintro e w3 ⟨rfl, rfl⟩)
    try dsimp only
    refine hK.out _ _ ⟨c0, c1, c2⟩ (fun hHeld2 => ?_)
    clear hK K
    try simp only [Act.put, List.setIfInBounds_toArray, List.set_cons_zero, List.set_cons_succ]
    refine wpAnyH_ready (rs := [5]) (by kernel_rfl) (by simp) ?_
    refine AllReadyH.cons rfl (fun K hK => ?_) AllReadyH.nil
    go_simp
    (go_at_call 238; refine (HTX.out _ N1.out.drew).mono ?_; rintro e w3 ⟨rfl, n3⟩; have N3 := hid ((Mod.refl (fun _ => False) w1).drew.trans n3); clear n3)
    try dsimp only
    refine hK.out _ _ ⟨New.cellv N3.out c0, New.cellv N3.out c1, New.cellv N3.out c2⟩ (fun hHeld5 => ?_)
    clear hK K
    try simp only [Act.put, List.setIfInBounds_toArray, List.set_cons_zero, List.set_cons_succ]
    refine tk (v := ?_) 6 ?_ ?_
    rotate_left
    · intro w hSw
      (try dsimp only at hSw)
      first | (go_simp; done) | (go_simp; with_reducible rfl) | with_reducible rfl
    simp only [Act.put, List.setIfInBounds_toArray, List.set_cons_zero, List.set_cons_succ]
    refine wpAnyH_ready (rs := [9]) (by kernel_rfl) (by simp) ?_
    refine AllReadyH.cons rfl (fun K hK => ?_) AllReadyH.nil
    go_simp
    (go_at_call 117; refine (HI.out _ (N1.out.trans N3.out)).mono ?_; rintro e w4 ⟨rfl, n4⟩; have N4 := hid (N3.out.trans n4); clear n4)
    try dsimp only
    refine hK.out _ _ ⟨New.cellv N4.out c0, New.cellv N4.out c1, New.cellv N4.out c2⟩ (fun hHeld9 => ?_)
    clear hK K
    try simp only [Act.put, List.setIfInBounds_toArray, List.set_cons_zero, List.set_cons_succ]
    refine tk (v := ?_) 10 ?_ ?_
    rotate_left
    · intro w hSw
      (try dsimp only at hSw)
      first | (go_simp; done) | (go_simp; with_reducible rfl) | with_reducible rfl
    simp only [Act.put, List.setIfInBounds_toArray, List.set_cons_zero, List.set_cons_succ]
    refine tk (v := ?_) 11 ?_ ?_
    rotate_left
    · intro w hSw
      (try dsimp only at hSw)
      first | (go_simp; done) | (go_simp; with_reducible rfl) | with_reducible rfl
    simp only [Act.put, List.setIfInBounds_toArray, List.set_cons_zero, List.set_cons_succ]
    refine tk (v := ?_) 12 ?_ ?_
    rotate_left
    · intro w hSw
      (try dsimp only at hSw)
      first | (go_simp; done) | (go_simp; with_reducible rfl) | with_reducible rfl
    simp only [Act.put, List.setIfInBounds_toArray, List.set_cons_zero, List.set_cons_succ]
    refine wpAnyH_done (by kernel_rfl) ?_ _
    go_wp2_with fail
    go_ret2
    exact ⟨by rw [← HR.out]; rfl, N1.out.trans N4.out⟩
  · have hip : ip.size ≤ maxLen := by unfold maxLen; omega
    have HBT := hid (show mkB (bodyT ⟨6, ip, port⟩) = mkB (91 :: (Lib.join ((pairsN ip.data.toList).map hexG) [58] ++ [93])) by unfold bodyT; rw [if_neg (show ¬ (6 : Int) = 4 by decide)])
    have HTX := hid (fun W (n : New w W) => six_text ip hs W (hv.new n))
    have hbl : (bodyT ⟨6, ip, port⟩).length ≤ 130 := by
      have q := atxt_len ok
      unfold atxt at q
      rw [List.length_append] at q
      omega
    have hTT := HBT.out
    obtain ⟨T, hT⟩ : ∃ T, T = bodyT ⟨6, ip, port⟩ := ⟨_, rfl⟩
    rw [← hT] at hbl hTT
    rw [← hTT] at HTX
    have HI := hid (fun W (n : New w W) => itoa_any port (by omega) (by omega) W (hv.new n).tab)
    have his := itoa_size (n := port) (by omega) (by omega)
    obtain ⟨p, rfl⟩ := Int.eq_ofNat_of_zero_le (show 0 ≤ port by omega)
    have HR := hid (show mkB T ++ ⟨#[58]⟩ ++ itoaB (p : Int) = mkB (atxt ⟨6, ip, (p : Int)⟩) by
      unfold atxt
      rw [← hT, itoa_mk, show (⟨#[58]⟩ : ByteArray) = mkB [58] from rfl, mkB_app, mkB_app]
      simp)
    have hts : (mkB T).size ≤ 130 := by rw [size_list]; exact hbl
    have h58 : (⟨#[58]⟩ : ByteArray).size = 1 := rfl
    have htu : (mkB T ++ ⟨#[58]⟩ : ByteArray).size = (mkB T).size + 1 := by rw [ByteArray.size_append]; rfl
    obtain ⟨S, hS⟩ : ∃ S, S = itoaB (p : Int) := ⟨_, rfl⟩
    rw [← hS] at his HI HR
    have hns1 : ¬ 9223372036854775807 < (mkB T).size + 1 := by omega
    have hns2 : ¬ 9223372036854775807 < (mkB T).size + 1 + S.size := by omega
    have HF := hid (fun w => families_any 6 w)
    rw [famV6] at HF
    have hme := mtt_6 (.agg #[])
    have HVA := hid (fun W => adrValid_any ⟨6, ip, (p : Int)⟩ W hip)
    rw [ok] at HVA
    simp only at HVA
    have B0 := Blk.new w #[.int .i64 6, .string ip, .int .i64 (p : Int)] 64
    have c0 := B0.cellv 0 rfl; have c1 := B0.cellv 1 rfl; have c2 := B0.cellv 2 rfl
    have HB0 := hid B0
    have NA := hid ((Mod.refl (fun _ => False) w).alloc (.cells #[.int .i64 6, .string ip, .int .i64 (p : Int)] 64))
    have cl := B0.lt
    clear B0 ok hT hS hbl hTT hv hip
    go_enter Tryz.func54, Tryz.ntmps54
    go_wp2_with fail
    refine (HVA.out _).mono ?_
    rintro e w1 ⟨rfl, n1⟩
    have B1 := New.blk n1 HB0.out
    have N1 := hid (NA.out.trans n1)
    clear c0 c1 c2 cl n1
    have c0 : w1.cell? ⟨w.heap.size, 0, none⟩ = some (.int .i64 6) := B1.cellv 0 rfl
    have c1 : w1.cell? ⟨w.heap.size, 1, none⟩ = some (.string ip) := B1.cellv 1 rfl
    have c2 : w1.cell? ⟨w.heap.size, 2, none⟩ = some (.int .i64 (p : Int)) := B1.cellv 2 rfl
    clear B1
    go_wp2_with fail
    refine wp_region_held_drew (S := (fun w' => w'.cell? ⟨w.heap.size, 0, none⟩ = some (.int .i64 6) ∧ w'.cell? ⟨w.heap.size, 1, none⟩ = some (.string ip) ∧ w'.cell? ⟨w.heap.size, 2, none⟩ = some (.int .i64 (p : Int)))) (by kernel_rfl) ⟨c0, c1, c2⟩ (fun hHeld => ?_)
    refine tk (v := ?_) 0 ?_ ?_
    rotate_left
    · intro w hSw
      (try dsimp only at hSw)
      first | (go_simp; done) | (go_simp; with_reducible rfl) | with_reducible rfl
    simp only [Act.put, List.setIfInBounds_toArray, List.set_cons_zero, List.set_cons_succ]
    refine tk (v := ?_) 1 ?_ ?_
    rotate_left
    · intro w hSw
      (try dsimp only at hSw)
      first | (go_simp; done) | (go_simp; with_reducible rfl) | with_reducible rfl
    simp only [Act.put, List.setIfInBounds_toArray, List.set_cons_zero, List.set_cons_succ]
    refine tk (v := ?_) 3 ?_ ?_
    rotate_left
    · intro w hSw
      (try dsimp only at hSw)
      first | (go_simp; done) | (go_simp; with_reducible rfl) | with_reducible rfl
    simp only [Act.put, List.setIfInBounds_toArray, List.set_cons_zero, List.set_cons_succ]
    refine tk (v := ?_) 4 ?_ ?_
    rotate_left
    · intro w hSw
      (try dsimp only at hSw)
      first | (go_simp; done) | (go_simp; with_reducible rfl) | with_reducible rfl
    simp only [Act.put, List.setIfInBounds_toArray, List.set_cons_zero, List.set_cons_succ]
    refine tk (v := ?_) 7 ?_ ?_
    rotate_left
    · intro w hSw
      (try dsimp only at hSw)
      first | (go_simp; done) | (go_simp; with_reducible rfl) | with_reducible rfl
    simp only [Act.put, List.setIfInBounds_toArray, List.set_cons_zero, List.set_cons_succ]
    refine tk (v := ?_) 8 ?_ ?_
    rotate_left
    · intro w hSw
      (try dsimp only at hSw)
      first | (go_simp; done) | (go_simp; with_reducible rfl) | with_reducible rfl
    simp only [Act.put, List.setIfInBounds_toArray, List.set_cons_zero, List.set_cons_succ]
    refine wpAnyH_ready (rs := [2]) (by kernel_rfl) (by simp) ?_
    refine AllReadyH.cons rfl (fun K hK => ?_) AllReadyH.nil
    go_simp
    (go_at_call 93; refine (HF.out _).mono ?_; rintro e w3 ⟨rfl, rfl⟩)
    try dsimp only
    refine hK.out _ _ ⟨c0, c1, c2⟩ (fun hHeld2 => ?_)
    clear hK K
    try simp only [Act.put, List.setIfInBounds_toArray, List.set_cons_zero, List.set_cons_succ]
    refine wpAnyH_ready (rs := [5]) (by kernel_rfl) (by simp) ?_
    refine AllReadyH.cons rfl (fun K hK => ?_) AllReadyH.nil
    go_simp
    (go_at_call 243; refine (HTX.out _ N1.out.drew).mono ?_; rintro e w3 ⟨rfl, n3⟩; have N3 := hid ((Mod.refl (fun _ => False) w1).drew.trans n3); clear n3)
    try dsimp only
    refine hK.out _ _ ⟨New.cellv N3.out c0, New.cellv N3.out c1, New.cellv N3.out c2⟩ (fun hHeld5 => ?_)
    clear hK K
    try simp only [Act.put, List.setIfInBounds_toArray, List.set_cons_zero, List.set_cons_succ]
    refine tk (v := ?_) 6 ?_ ?_
    rotate_left
    · intro w hSw
      (try dsimp only at hSw)
      first | (go_simp; done) | (go_simp; with_reducible rfl) | with_reducible rfl
    simp only [Act.put, List.setIfInBounds_toArray, List.set_cons_zero, List.set_cons_succ]
    refine wpAnyH_ready (rs := [9]) (by kernel_rfl) (by simp) ?_
    refine AllReadyH.cons rfl (fun K hK => ?_) AllReadyH.nil
    go_simp
    (go_at_call 117; refine (HI.out _ (N1.out.trans N3.out)).mono ?_; rintro e w4 ⟨rfl, n4⟩; have N4 := hid (N3.out.trans n4); clear n4)
    try dsimp only
    refine hK.out _ _ ⟨New.cellv N4.out c0, New.cellv N4.out c1, New.cellv N4.out c2⟩ (fun hHeld9 => ?_)
    clear hK K
    try simp only [Act.put, List.setIfInBounds_toArray, List.set_cons_zero, List.set_cons_succ]
    refine tk (v := ?_) 10 ?_ ?_
    rotate_left
    · intro w hSw
      (try dsimp only at hSw)
      first | (go_simp; done) | (go_simp; with_reducible rfl) | with_reducible rfl
    simp only [Act.put, List.setIfInBounds_toArray, List.set_cons_zero, List.set_cons_succ]
    refine tk (v := ?_) 11 ?_ ?_
    rotate_left
    · intro w hSw
      (try dsimp only at hSw)
      first | (go_simp; done) | (go_simp; with_reducible rfl) | with_reducible rfl
    simp only [Act.put, List.setIfInBounds_toArray, List.set_cons_zero, List.set_cons_succ]
    refine tk (v := ?_) 12 ?_ ?_
    rotate_left
    · intro w hSw
      (try dsimp only at hSw)
      first | (go_simp; done) | (go_simp; with_reducible rfl) | with_reducible rfl
    simp only [Act.put, List.setIfInBounds_toArray, List.set_cons_zero, List.set_cons_succ]
    refine wpAnyH_done (by kernel_rfl) ?_ _
    go_wp2_with fail
    go_ret2
    exact ⟨by rw [← HR.out]; rfl, N1.out.trans N4.out⟩
end Go.Proofs.YtbgmkplpolgebaaGreatDoor

namespace Go.Proofs.YtbgmkplpolgebaaGreatDoor
set_option linter.unusedSimpArgs false
set_option linter.unusedVariables false
open Go.RowKit Go.Shelf

def fmtX (m : MgV) : ByteArray := if validMg m = true then mkB (magT m) else ⟨#[]⟩
def fmtE (m : MgV) : Int := if validMg m = true then 0 else 1
def partsB (L : List (List UInt8)) : List ByteArray := L.map mkB
theorem partsB_app (A B : List (List UInt8)) : partsB (A ++ B) = partsB A ++ partsB B := by unfold partsB; rw [List.map_append]
theorem partsB_opt0 {x k : ByteArray} {v : List UInt8} (h : x.size = 0) : partsB (optT x k v) = [] := by unfold optT; rw [if_pos h]; rfl
theorem partsB_opt1 {x k : ByteArray} {v : List UInt8} (h : x.size ≠ 0) : partsB (optT x k v) = [kvB k (mkB v)] := by unfold optT; rw [if_neg h, kvB_key]; rfl
theorem partsB_take {k : ByteArray} {L : List ByteArray} {j : Nat} (h : j < L.length) : partsB (listT k (L.take (j + 1))) = partsB (listT k (L.take j)) ++ [kvB k (mkB (eOf L[j].data.toList))] := by
  rw [lst_next h, kvB_key]
  unfold listT
  rw [List.map_append, partsB_app]
  rfl
theorem partsB_takeP {L : List AdrV} {j : Nat} (h : j < L.length) : partsB (peT (L.take (j + 1))) = partsB (peT (L.take j)) ++ [kvB pPe (mkB (eOf (atxt L[j])))] := by
  rw [lst_next h, kvB_key]
  unfold peT
  rw [List.map_append, partsB_app]
  rfl
theorem partsB_listlen (k : ByteArray) (L : List ByteArray) : (partsB (listT k L)).length = L.length := by unfold partsB listT; simp
theorem partsB_pelen (L : List AdrV) : (partsB (peT L)).length = L.length := by unfold partsB peT; simp
theorem partsB_join (L : List (List UInt8)) : Lib.join ((partsB L).map (·.data.toList)) [38] = Lib.join L [38] := by
  unfold partsB
  rw [List.map_map]
  congr 1
  refine (List.map_congr_left (fun x _ => ?_)).trans (List.map_id L)
  rfl
theorem mem_wt : ∀ (L : List (List UInt8)) (x : List UInt8), x ∈ L → x.length ≤ wtL L
  | [], x, h => by cases h
  | y :: L, x, h => by
    show x.length ≤ y.length + 1 + wtL L
    rcases List.mem_cons.1 h with rfl | q
    · omega
    · have := mem_wt L x q
      omega
end Go.Proofs.YtbgmkplpolgebaaGreatDoor
