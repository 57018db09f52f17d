/-
  Several texts in one, in their build order. What the reference's reading of an address finds in an address's text. Plain Lean, no program. No condition. The walks of a field's has and set (package bits): a bit read, a bit written. Conditions: the field's bytes lie as told; the number is one of them. The walks of Wrong, Valid, fail, open and caught (package bits) for fields that are right. Condition: at most 4096 bits.
-/
import Derived.Test.YtbgmkplpolgebaaGreatDoorM14
import Derived.Test.YtbgmkplpolgebaaGreatDoorM1
import Derived.Test.YtbgmkplpolgebaaGreatDoorM10
import Derived.Test.YtbgmkplpolgebaaGreatDoorM12
import Derived.Test.YtbgmkplpolgebaaGreatDoorM3
import Derived.Defers
import Derived.Recover
import Derived.Deep.AppendLies
namespace Go.Proofs.YtbgmkplpolgebaaGreatDoor
set_option linter.unusedSimpArgs false
set_option linter.unusedVariables false

def nibG (a : Nat) : List UInt8 → Option Nat
  | [] => some a
  | c :: r => match nib c with
    | none => none
    | some d => nibG (a * 16 + d) r
def hexP (p : List UInt8) : Option Nat := if p = [] ∨ 4 < p.length then none else nibG 0 p
def grp7 (i : Nat) (p : List UInt8) : Option Nat := if i = 7 then (if p.getLast? = some 93 then hexP p.dropLast else none) else hexP p
theorem nibG_app : ∀ (x y : List UInt8) (a v : Nat), nibG a x = some v → nibG a (x ++ y) = nibG v y
  | [], y, a, v, h => by
    injection h with h
    subst h
    rfl
  | c :: x, y, a, v, h => by
    simp only [nibG] at h
    show (match nib c with | none => none | some d => nibG (a * 16 + d) (x ++ y)) = _
    cases hd : nib c with
    | none => rw [hd] at h; cases h
    | some d =>
      rw [hd] at h
      exact nibG_app x y _ v h
theorem nib_D {n : Nat} (h : n < 16) : nib (hexD n) = some n := by
  have key : ∀ n : Nat, n < 16 → nib (hexD n) = some n := by decide +kernel
  exact key n h
theorem nibG_hex (u : Nat) : nibG 0 (hexG u) = some u := by
  induction u using Nat.strongRecOn with
  | ind u ih =>
    by_cases h : u < 16
    · rw [hexG_one h]
      simp only [nibG]
      rw [nib_D h]
      simp
    · rw [hexG_more h, nibG_app _ _ 0 _ (ih (u / 16) (by omega))]
      simp only [nibG]
      rw [nib_D (by omega)]
      simp only
      congr 1
      omega
theorem hexP_hex {u : Nat} (h : u < 65536) : hexP (hexG u) = some u := by
  unfold hexP
  rw [if_neg, nibG_hex]
  rintro (q | q)
  · exact hexG_ne u q
  · have := hexG_len u h
    omega
theorem nibG_lt : ∀ (p : List UInt8) (a v : Nat), nibG a p = some v → v < (a + 1) * 16 ^ p.length
  | [], a, v, h => by
    injection h with h
    subst h
    simp
  | c :: r, a, v, h => by
    simp only [nibG] at h
    cases hd : nib c with
    | none => rw [hd] at h; cases h
    | some d =>
      rw [hd] at h
      have := nibG_lt r _ v h
      have hl := nib_lt hd
      have h2 : (a * 16 + d + 1) * 16 ^ r.length ≤ ((a + 1) * 16) * 16 ^ r.length := Nat.mul_le_mul_right _ (by omega)
      rw [List.length_cons, Nat.pow_succ]
      have h3 : (a + 1) * (16 ^ r.length * 16) = (a + 1) * 16 * 16 ^ r.length := by ac_rfl
      omega
theorem natP_dec (u : Nat) : natP (Lib.decDigits u) = some u := natP_iff.2 rfl
theorem digP_dec {most u : Nat} (h : u ≤ most) : digP most (Lib.decDigits u) = (u : Int) := by
  unfold digP
  rw [natP_dec]
  simp only
  rw [if_pos h]
theorem dec58 (u : Nat) : (58 : UInt8) ∉ Lib.decDigits u := dec_free (by decide) u
theorem body4_free (ip : List UInt8) : (58 : UInt8) ∉ Lib.join (ip.map (fun b => Lib.decDigits b.toNat)) [46] := by
  intro q
  rcases mem_joinC q with q | ⟨x, hx, q⟩
  · cases q
  · obtain ⟨b, -, rfl⟩ := List.mem_map.1 hx
    exact dec58 _ q
/-- What an address of family 4 looks like, cut at colons and points. -/
theorem txt4 {x : AdrV} (h : x.fam = 4) (hl : x.ip.size = 4) : pieces [] 58 (atxt x) = [bodyT x, Lib.decDigits x.port.toNat] ∧ pieces [] 46 (bodyT x) = x.ip.data.toList.map (fun b => Lib.decDigits b.toNat) ∧ (atxt x).head? ≠ some 91 := by
  have hb : bodyT x = Lib.join (x.ip.data.toList.map (fun b => Lib.decDigits b.toNat)) [46] := by unfold bodyT; rw [if_pos h]
  have hlen : x.ip.data.toList.length = 4 := by rw [Array.length_toList]; exact hl
  have hp : pieces [] 46 (bodyT x) = x.ip.data.toList.map (fun b => Lib.decDigits b.toNat) := by
    rw [hb]
    refine pieces_joinC (fun q => ?_) (fun y hy => ?_)
    · rw [List.map_eq_nil_iff] at q
      rw [q] at hlen
      cases hlen
    · obtain ⟨b, -, rfl⟩ := List.mem_map.1 hy
      exact dec_free (by decide) _
  refine ⟨?_, hp, ?_⟩
  · unfold atxt
    rw [pieces_app _ _ (by rw [hb]; exact body4_free _), pieces_free _ (dec58 _)]
  · unfold atxt
    intro q
    have hm : (91 : UInt8) ∈ bodyT x ++ 58 :: Lib.decDigits x.port.toNat := List.mem_of_mem_head? q
    rcases List.mem_append.1 hm with m | m
    · rw [hb] at m
      rcases mem_joinC m with m | ⟨y, hy, m⟩
      · cases m
      · obtain ⟨b, -, rfl⟩ := List.mem_map.1 hy
        exact dec_free (by decide) _ m
    · rcases List.mem_cons.1 m with m | m
      · cases m
      · exact dec_free (by decide) _ m
theorem pieces_snocC {c : UInt8} (L : List (List UInt8)) (x t : List UInt8) (h : ∀ y ∈ L, c ∉ y) (hx : c ∉ x) : pieces [] c (Lib.join (L ++ [x]) [c] ++ c :: t) = L ++ [x] ++ pieces [] c t := by
  have key : ∀ (r : List (List UInt8)) (y : List UInt8), c ∉ y → (∀ z ∈ r, c ∉ z) → pieces [] c (y ++ Lib.joinTail [c] r ++ c :: t) = y :: r ++ pieces [] c t := by
    intro r
    induction r with
    | nil =>
      intro y hy _
      have e : y ++ Lib.joinTail [c] [] ++ c :: t = y ++ c :: t := by simp [Lib.joinTail]
      rw [e, pieces_app _ _ hy]
      rfl
    | cons z r ih =>
      intro y hy hr
      have e : y ++ Lib.joinTail [c] (z :: r) ++ c :: t = y ++ c :: (z ++ Lib.joinTail [c] r ++ c :: t) := by simp [Lib.joinTail]
      rw [e, pieces_app _ _ hy, ih z (hr z (by simp)) (fun q hq => hr q (by simp [hq]))]
      rfl
  cases L with
  | nil =>
    rw [List.nil_append, Lib.join_one, pieces_app _ _ hx]
    rfl
  | cons y r =>
    rw [List.cons_append, Lib.join_cons, key (r ++ [x]) y (h y (by simp))]
    · intro z hz
      rcases List.mem_append.1 hz with q | q
      · exact h z (by simp [q])
      · simp only [List.mem_singleton] at q
        rw [q]
        exact hx
theorem join_lastC (c d : UInt8) (L : List (List UInt8)) (x : List UInt8) : Lib.join (L ++ [x]) [c] ++ [d] = Lib.join (L ++ [x ++ [d]]) [c] := by
  have key : ∀ (r : List (List UInt8)), Lib.joinTail [c] (r ++ [x]) ++ [d] = Lib.joinTail [c] (r ++ [x ++ [d]]) := by
    intro r
    induction r with
    | nil => simp [Lib.joinTail]
    | cons z r ih =>
      have e : ∀ M : List (List UInt8), Lib.joinTail [c] (z :: M) = c :: (z ++ Lib.joinTail [c] M) := fun M => by simp [Lib.joinTail]
      rw [List.cons_append, List.cons_append, e, e, ← ih]
      simp
  cases L with
  | nil => simp [Lib.join_one]
  | cons y r =>
    rw [List.cons_append, List.cons_append, Lib.join_cons, Lib.join_cons, ← key]
    simp
/-- What an address of family 6 looks like, cut at colons. -/
theorem txt6 {x : AdrV} (h : x.fam = 6) (hl : x.ip.size = 16) : ∃ (L : List Nat) (u : Nat), pairsN x.ip.data.toList = L ++ [u] ∧ L.length = 7 ∧ (∀ n ∈ L, n < 65536) ∧ u < 65536 ∧ atxt x = 91 :: (Lib.join (L.map hexG ++ [hexG u ++ [93]]) [58] ++ 58 :: Lib.decDigits x.port.toNat) ∧ pieces [] 58 ((atxt x).drop 1) = L.map hexG ++ [hexG u ++ [93], Lib.decDigits x.port.toNat] ∧ x.ip.data.toList = unpairs (L ++ [u]) := by
  have hb : bodyT x = 91 :: (Lib.join ((pairsN x.ip.data.toList).map hexG) [58] ++ [93]) := by unfold bodyT; rw [if_neg (by omega)]
  have hlen : x.ip.data.toList.length = 2 * 8 := by rw [Array.length_toList]; exact hl
  obtain ⟨p1, p2, p3⟩ := pairs_forth 8 _ hlen
  obtain ⟨N, hN⟩ : ∃ N, N = pairsN x.ip.data.toList := ⟨_, rfl⟩
  rw [← hN] at p1 p2 p3 hb ⊢
  rcases List.eq_nil_or_concat N with q | ⟨L, u, q⟩
  · rw [q] at p2; cases p2
  rw [List.concat_eq_append] at q
  subst q
  have ht : atxt x = 91 :: (Lib.join (L.map hexG ++ [hexG u ++ [93]]) [58] ++ 58 :: Lib.decDigits x.port.toNat) := by
    unfold atxt
    rw [hb, List.map_append, List.map_cons, List.map_nil, join_lastC]
    rfl
  refine ⟨L, u, rfl, by simpa using p2, fun n hn => p3 n (by simp [hn]), p3 u (by simp), ht, ?_, p1.symm⟩
  rw [ht, List.drop_succ_cons, List.drop_zero, pieces_snocC, pieces_free _ (dec58 _)]
  · simp
  · intro y hy
    obtain ⟨n, -, rfl⟩ := List.mem_map.1 hy
    exact hex_free (by decide) n
  · intro q
    rcases List.mem_append.1 q with q | q
    · exact hex_free (by decide) u q
    · simp at q
theorem aP_txt {x : AdrV} (h : adrOk x = true) : aP (atxt x) = some x := by
  obtain ⟨hf, hp1, hp2⟩ := adrOk_iff.1 h
  have hl : lastC 58 (atxt x) = some (bodyT x, Lib.decDigits x.port.toNat) := lastC_app (dec58 _) _
  have hn : numA 10 65535 (Lib.decDigits x.port.toNat) = some x.port.toNat := numA_fmt (.inl rfl) (by omega) (by omega)
  have hpt : ((x.port.toNat : Nat) : Int) = x.port := by omega
  have hmk : mkB x.ip.data.toList = x.ip := data_mkB x.ip
  rcases hf with ⟨hf, hs⟩ | ⟨hf, hs⟩
  · obtain ⟨t1, t2, t3⟩ := txt4 hf hs
    have hlen : x.ip.data.toList.length = 4 := by rw [Array.length_toList]; exact hs
    have hb0 : bodyT x ≠ [] := by
      intro q
      rw [q] at t2
      have := congrArg List.length t2
      rw [List.length_map, hlen] at this
      cases this
    have hip : ipP (atxt x) (bodyT x) = some (4, x.ip.data.toList) := by
      unfold ipP
      rw [if_neg t3]
      have : read4 (bodyT x) = some x.ip.data.toList := by
        unfold read4
        rw [t2]
        have e : x.ip.data.toList.map (fun b => Lib.decDigits b.toNat) = (x.ip.data.toList.map (fun b => b.toNat)).map (fmtU 10) := by rw [List.map_map]; rfl
        rw [e, numsA_map (.inl rfl) (by omega) _ (fun n hn => by
          obtain ⟨b, -, rfl⟩ := List.mem_map.1 hn
          have := b.toNat_lt
          omega)]
        simp only
        rw [if_pos (by rw [List.length_map, hlen]), b8_back]
      rw [this]
      rfl
    unfold aP
    rw [hl]
    simp only
    rw [if_neg hb0, hip]
    simp only
    rw [hn]
    simp only
    rw [if_neg (by omega), hpt, hmk, ← hf]
  · obtain ⟨L, u, q1, q2, q3, q4, t1, t2, t3⟩ := txt6 hf hs
    have hbd : bodyT x = 91 :: (Lib.join ((L ++ [u]).map hexG) [58] ++ [93]) := by unfold bodyT; rw [if_neg (by omega), q1]
    have hb0 : bodyT x ≠ [] := by rw [hbd]; simp
    have hip : ipP (atxt x) (bodyT x) = some (6, x.ip.data.toList) := by
      unfold ipP
      rw [if_pos (by rw [t1]; rfl)]
      have hin : inner (bodyT x) = Lib.join ((L ++ [u]).map hexG) [58] := by
        unfold inner
        rw [hbd, List.drop_succ_cons, List.drop_zero, List.dropLast_concat]
      have hJ : Lib.join ((L ++ [u]).map hexG) [58] ≠ [] := by
        intro q
        have h8 : pieces [] 58 (Lib.join ((L ++ [u]).map hexG) [58]) = (L ++ [u]).map hexG := pieces_joinC (by simp) (fun y hy => by
          obtain ⟨n, -, rfl⟩ := List.mem_map.1 hy
          exact hex_free (by decide) n)
        rw [q] at h8
        have := congrArg List.length h8
        simp [pieces, q2] at this
      have : read6 (bodyT x) = some x.ip.data.toList := by
        unfold read6
        rw [if_pos, hin, pieces_joinC (by simp) (fun y hy => by
          obtain ⟨n, -, rfl⟩ := List.mem_map.1 hy
          exact hex_free (by decide) n)]
        · have e : (L ++ [u]).map hexG = (L ++ [u]).map (fmtU 16) := rfl
          rw [e, numsA_map (.inr rfl) (by omega) _ (fun n hn => by
            rcases List.mem_append.1 hn with q | q
            · have := q3 n q; omega
            · simp only [List.mem_singleton] at q; omega)]
          simp only
          rw [if_pos (by simp [q2]), t3]
        · have := List.length_pos_iff.2 hJ
          refine ⟨by rw [hbd, List.length_cons, List.length_append, List.length_singleton]; omega, by rw [hbd]; rfl, ?_⟩
          rw [hbd, ← List.cons_append, List.getLast?_concat]
      rw [this]
      rfl
    unfold aP
    rw [hl]
    simp only
    rw [if_neg hb0, hip]
    simp only
    rw [hn]
    simp only
    rw [if_neg (by omega), hpt, hmk, ← hf]
/-- The candidate is what is read just if it is right and its text is the text. -/
theorem aP_yes {s : List UInt8} {x : AdrV} (h : adrOk x = true) (ht : atxt x = s) : aP s = some x := by rw [← ht]; exact aP_txt h
/-- What is read of a text of family 6. -/
theorem aP_six {s : List UInt8} {x : AdrV} (h : aP s = some x) (hd : s.head? = some 91) : x.fam = 6 ∧ ∃ N : List Nat, N.length = 8 ∧ (pieces [] 58 (s.drop 1)).length = 9 ∧ (∀ j (hj : j < N.length), grp7 j ((pieces [] 58 (s.drop 1)).getD j []) = some N[j]) ∧ digP 65535 ((pieces [] 58 (s.drop 1)).getD 8 []) = x.port ∧ x.ip = mkB (unpairs N) := by
  obtain ⟨ok, rfl⟩ := aP_text h
  obtain ⟨hf, hp1, hp2⟩ := adrOk_iff.1 ok
  rcases hf with ⟨hf, hs⟩ | ⟨hf, hs⟩
  · exact absurd hd (txt4 hf hs).2.2
  · obtain ⟨L, u, q1, q2, q3, q4, t1, t2, t3⟩ := txt6 hf hs
    rw [t2]
    refine ⟨hf, L ++ [u], by simp [q2], by simp [q2], fun j hj => ?_, ?_, by rw [← t3]; exact (data_mkB x.ip).symm⟩
    · by_cases h7 : j = 7
      · subst h7
        have e1 : (L ++ [u])[7] = u := by rw [List.getElem_append_right (by omega)]; simp [q2]
        have e2 : (L.map hexG ++ [hexG u ++ [93], Lib.decDigits x.port.toNat]).getD 7 [] = hexG u ++ [93] := by
          rw [List.getD_eq_getElem?_getD, List.getElem?_append_right (by simp [q2])]
          simp [q2]
        rw [e1, e2]
        unfold grp7
        rw [if_pos rfl, if_pos (List.getLast?_concat ..), List.dropLast_concat, hexP_hex q4]
      · have hj7 : j < L.length := by simp at hj; omega
        have e1 : (L ++ [u])[j] = L[j] := List.getElem_append_left hj7
        have e2 : (L.map hexG ++ [hexG u ++ [93], Lib.decDigits x.port.toNat]).getD j [] = hexG L[j] := by
          rw [List.getD_eq_getElem?_getD, List.getElem?_append_left (by simpa using hj7), List.getElem?_map, List.getElem?_eq_getElem hj7]
          rfl
        rw [e1, e2]
        unfold grp7
        rw [if_neg h7, hexP_hex (q3 _ (List.getElem_mem _))]
    · have e2 : (L.map hexG ++ [hexG u ++ [93], Lib.decDigits x.port.toNat]).getD 8 [] = Lib.decDigits x.port.toNat := by
        rw [List.getD_eq_getElem?_getD, List.getElem?_append_right (by simp [q2])]
        simp [q2]
      rw [e2, digP_dec (by omega)]
      omega
/-- What is read of a text of family 4. -/
theorem aP_four {s : List UInt8} {x : AdrV} (h : aP s = some x) (hd : s.head? ≠ some 91) : x.fam = 4 ∧ ∃ N : List UInt8, N.length = 4 ∧ (pieces [] 58 s).length = 2 ∧ (pieces [] 46 ((pieces [] 58 s).getD 0 [])).length = 4 ∧ (∀ j (hj : j < N.length), digP 255 ((pieces [] 46 ((pieces [] 58 s).getD 0 [])).getD j []) = (N[j].toNat : Int)) ∧ digP 65535 ((pieces [] 58 s).getD 1 []) = x.port ∧ x.ip = mkB N := by
  obtain ⟨ok, rfl⟩ := aP_text h
  obtain ⟨hf, hp1, hp2⟩ := adrOk_iff.1 ok
  rcases hf with ⟨hf, hs⟩ | ⟨hf, hs⟩
  · obtain ⟨t1, t2, t3⟩ := txt4 hf hs
    have hlen : x.ip.data.toList.length = 4 := by rw [Array.length_toList]; exact hs
    rw [t1]
    have e0 : [bodyT x, Lib.decDigits x.port.toNat].getD 0 [] = bodyT x := rfl
    rw [e0, t2]
    refine ⟨hf, x.ip.data.toList, hlen, rfl, by rw [List.length_map, hlen], fun j hj => ?_, ?_, (data_mkB x.ip).symm⟩
    · rw [List.getD_eq_getElem?_getD, List.getElem?_map, List.getElem?_eq_getElem hj]
      have := (x.ip.data.toList[j]).toNat_lt
      exact digP_dec (by omega)
    · show digP 65535 (Lib.decDigits x.port.toNat) = _
      rw [digP_dec (by omega)]
      omega
  · obtain ⟨L, u, q1, q2, q3, q4, t1, t2, t3⟩ := txt6 hf hs
    exact absurd (by rw [t1]; rfl) hd
end Go.Proofs.YtbgmkplpolgebaaGreatDoor

namespace Go.Proofs.YtbgmkplpolgebaaGreatDoor
set_option linter.unusedSimpArgs false
set_option linter.unusedVariables false
open Go.RowKit

theorem and_one (b : UInt8) {j : Nat} (hj : j < 8) : (bits .and .u8 ((b.toNat : Int) / 2 ^ (7 - j)) 1 == 1) = bitB b j := by
  have key : ∀ n : Nat, n < 256 → ∀ j : Nat, j < 8 → (bits .and .u8 ((n : Int) / 2 ^ (7 - j)) 1 == 1) = decide (n / 2 ^ (7 - j) % 2 = 1) := by decide +kernel
  exact key b.toNat b.toNat_lt j hj
set_option maxHeartbeats 1000000 in
theorem bhas_any (n : Int) (g c : Nat) (s : List UInt8) (i : Nat) (w : World) (h : ByAt w g s) (hi : i / 8 < s.length) (hl : s.length ≤ 70000) :
    Calls Tryz.prog 176 #[.agg #[.int .i64 n, .slice (some ⟨g, 0, none⟩) s.length c], .int .i64 i] w fun e w' => e = .returned (.bool (bitL s i)) ∧ New w w' := by
  have hc := h.cell hi
  have hlt := h.lt
  obtain ⟨b, hb⟩ : ∃ b, b = s[i / 8] := ⟨_, rfl⟩
  have HB := hid (show bitL s i = bitB b (i % 8) by unfold bitL; rw [hb, List.getD_eq_getElem?_getD, List.getElem?_eq_getElem hi]; rfl)
  rw [← hb] at hc
  have hq : ((i : Int)).tdiv 8 = ((i / 8 : Nat) : Int) := by rw [Int.tdiv_eq_ediv_of_nonneg (by omega)]; omega
  have hq2 : (i : Int) / 8 = ((i / 8 : Nat) : Int) := by omega
  have hr : ((i : Int)).tmod 8 = ((i % 8 : Nat) : Int) := by rw [Int.tmod_eq_emod_of_nonneg (by omega)]; omega
  have hr2 : (i : Int) % 8 = ((i % 8 : Nat) : Int) := by omega
  have ho := and_one b (j := i % 8) (by omega)
  obtain ⟨K, hK⟩ : ∃ K, K = i / 8 := ⟨_, rfl⟩
  obtain ⟨J, hJ⟩ : ∃ J, J = i % 8 := ⟨_, rfl⟩
  rw [← hK] at hc hq hq2
  rw [← hJ] at hr hr2 ho HB
  have hJ8 : J < 8 := by omega
  have hw : IntKind.i64.wrap (7 - (J : Int)) = 7 - (J : Int) := by rw [IntKind.wrap_i64]; omega
  have hn : ((7 : Int) - (J : Int)).toNat = 7 - J := by omega
  have hKl : K < s.length := by omega
  clear h hb hK hJ
  go_enter Tryz.func176, Tryz.ntmps176
  go_wp2
  go_ret
  exact ⟨ret_bool HB.out.symm, (Mod.refl _ _).alloc _⟩
theorem or_mask (b : UInt8) {j : Nat} (hj : j < 8) : bits .or .u8 (b.toNat : Int) (128 / 2 ^ j) = ((setB b j true).toNat : Int) := by
  have key : ∀ n : Nat, n < 256 → ∀ j : Nat, j < 8 → bits .or .u8 (n : Int) (128 / 2 ^ j) = ((setB (UInt8.ofNat n) j true).toNat : Int) := by decide +kernel
  have := key b.toNat b.toNat_lt j hj
  rwa [UInt8.ofNat_toNat] at this
theorem not_mask (b : UInt8) {j : Nat} (hj : j < 8) : bits .andNot .u8 (b.toNat : Int) (128 / 2 ^ j) = ((setB b j false).toNat : Int) := by
  have key : ∀ n : Nat, n < 256 → ∀ j : Nat, j < 8 → bits .andNot .u8 (n : Int) (128 / 2 ^ j) = ((setB (UInt8.ofNat n) j false).toNat : Int) := by decide +kernel
  have := key b.toNat b.toNat_lt j hj
  rwa [UInt8.ofNat_toNat] at this
set_option maxHeartbeats 1000000 in
theorem bset_any (n : Int) (g c : Nat) (s : List UInt8) (i : Nat) (v : Bool) (w : World) (h : ByAt w g s) (hi : i / 8 < s.length) (hl : s.length ≤ 70000) :
    Calls Tryz.prog 101 #[.agg #[.int .i64 n, .slice (some ⟨g, 0, none⟩) s.length c], .int .i64 i, .bool v] w fun e w' => e = .returned (.tuple #[]) ∧ ByAt w' g (setL s i v) ∧ Mod (fun k => k = g) w w' := by
  have hc := h.cell hi
  have hlt := h.lt
  have hfz := h.frz hi
  obtain ⟨b, hb⟩ : ∃ b, b = s[i / 8] := ⟨_, rfl⟩
  have HS := hid (show ∀ v, s.set (i / 8) (setB b (i % 8) v) = setL s i v from fun v => by unfold setL; rw [hb, List.getD_eq_getElem?_getD, List.getElem?_eq_getElem hi]; rfl)
  rw [← hb] at hc
  have hq : ((i : Int)).tdiv 8 = ((i / 8 : Nat) : Int) := by rw [Int.tdiv_eq_ediv_of_nonneg (by omega)]; omega
  have hq2 : (i : Int) / 8 = ((i / 8 : Nat) : Int) := by omega
  have hr : ((i : Int)).tmod 8 = ((i % 8 : Nat) : Int) := by rw [Int.tmod_eq_emod_of_nonneg (by omega)]; omega
  have hr2 : (i : Int) % 8 = ((i % 8 : Nat) : Int) := by omega
  have ho := or_mask b (j := i % 8) (by omega)
  have hn := not_mask b (j := i % 8) (by omega)
  have HB := hid h
  obtain ⟨K, hK⟩ : ∃ K, K = i / 8 := ⟨_, rfl⟩
  obtain ⟨J, hJ⟩ : ∃ J, J = i % 8 := ⟨_, rfl⟩
  rw [← hK] at hc hq hq2 hfz HS
  rw [← hJ] at hr hr2 ho hn HS
  have hJ8 : J < 8 := by omega
  have hKl : K < s.length := by omega
  have HKL := hid hKl
  clear h hb hK hJ
  cases v with
  | true =>
    go_enter Tryz.func101, Tryz.ntmps101
    go_wp2
    go_end0
    exact ⟨rfl, by rw [← HS.out]; exact (HB.out.set HKL.out _).new ((Mod.refl _ _).alloc _), (Mod.set (S := fun k => k = g) (Mod.refl _ _) ⟨g, K, none⟩ _ (.inl rfl)).alloc _⟩
  | false =>
    go_enter Tryz.func101, Tryz.ntmps101
    go_wp2
    go_end0
    exact ⟨rfl, by rw [← HS.out]; exact (HB.out.set HKL.out _).new ((Mod.refl _ _).alloc _), (Mod.set (S := fun k => k = g) (Mod.refl _ _) ⟨g, K, none⟩ _ (.inl rfl)).alloc _⟩
end Go.Proofs.YtbgmkplpolgebaaGreatDoor

namespace Go.Proofs.YtbgmkplpolgebaaGreatDoor
set_option linter.unusedSimpArgs false
set_option linter.unusedVariables false
open Go.RowKit

set_option maxRecDepth 100000 in
set_option maxHeartbeats 1000000 in
theorem bwrong_ok (n : Nat) (s : ByteArray) (w : World) (h : FieldOf n s.data.toList) (hn : n ≤ 4096) :
    Calls Tryz.prog 147 #[.int .i64 n, .string s] w fun e w' => e = .returned (.tuple #[.int .i64 (-1), .int .i64 0]) ∧ New w w' := by
  have hlen : s.data.toList.length = s.size := by rw [Array.length_toList]; rfl
  have hl := h.len
  rw [hlen] at hl
  have hq : ((n : Int) + 7).tdiv 8 = ((s.size : Nat) : Int) := by rw [Int.tdiv_eq_ediv_of_nonneg (by omega)]; omega
  have hq2 : ((n : Int) + 7) / 8 = ((s.size : Nat) : Int) := by omega
  have hw1 : IntKind.i64.wrap ((n : Int) + 7) = (n : Int) + 7 := by rw [IntKind.wrap_i64]; omega
  have hw2 : IntKind.i64.wrap (8 * (s.size : Int)) = 8 * (s.size : Int) := by rw [IntKind.wrap_i64]; omega
  have hcv := fun w => bytes_of w s
  obtain ⟨cap, hcap⟩ : ∃ cap, cap = grownCap w s.size 0 5 := ⟨_, rfl⟩
  have HBY := hid (bytes_lie w s rfl)
  have HBN := hid (bytes_new w s)
  have hcw := hcv w
  rw [← hcap] at hcw
  obtain ⟨W, hW⟩ : ∃ W, W = afterBytes w s := ⟨_, rfl⟩
  rw [← hW] at hcw HBY HBN
  have hWs : W.heap.size = w.heap.size + 1 := by rw [hW]; simp
  have HR := hid h.rest
  have HH := hid (fun (i : Nat) (W' : World) (q : New W W') (hi : i < 8 * s.size) => bhas_any n w.heap.size cap s.data.toList i W' (HBY.out.new q) (by rw [hlen]; omega) (by rw [hlen]; omega))
  rw [hlen] at HH
  have hs5 : s.size ≤ 600 := by omega
  have hns : n ≤ 8 * s.size := by omega
  clear hcv hW hl h hcap
  go_enter Tryz.func147, Tryz.ntmps147
  go_wp2
  have KB := hid (Blk.new W #[.int .i64 n, .slice (some ⟨w.heap.size, 0, none⟩) s.size cap] 120)
  go_loopw [8] (fun x wr => ∃ k : Nat, x = .int .i64 k ∧ n ≤ k ∧ k ≤ 8 * s.size ∧ New (W.alloc (.cells #[.int .i64 n, .slice (some ⟨w.heap.size, 0, none⟩) s.size cap] 120)) wr) (fun x _ => 8 * s.size - (intOf x).toNat)
  case atStart => exact ⟨n, rfl, Nat.le_refl _, hns, Mod.refl _ _⟩
  case round =>
    obtain ⟨k, rfl, hk0, hk, hn'⟩ := hrel
    have HN := hid hn'
    by_cases hlt : k < 8 * s.size
    · have hltI : (k : Int) < 8 * (s.size : Int) := by omega
      have kb : Blk wr (w.heap.size + 1) #[.int .i64 n, .slice (some ⟨w.heap.size, 0, none⟩) s.size cap] 120 := by rw [← hWs]; exact New.blk hn' KB.out
      have c0 := kb.cellv 0 rfl; have c1 := kb.cellv 1 rfl; have cl := kb.lt
      have hx := HH.out k wr (((Mod.refl _ _).alloc _).trans hn') hlt
      rw [HR.out k hk0] at hx
      have HX := hid hx
      clear hx kb hn'
      go_wp2_with fail
      refine HX.out.mono ?_
      rintro e w2 ⟨rfl, n2⟩
      have N2 := hid (HN.out.trans n2)
      clear n2
      go_wp2
      exact ⟨⟨k + 1, by simp, by omega, by omega, N2.out⟩, by simp [intOf]; omega⟩
    · have hltI : ¬ (k : Int) < 8 * (s.size : Int) := by omega
      clear hn'
      go_wp2
      go_ret2
      exact ⟨rfl, HBN.out.trans (((Mod.refl _ _).alloc _).trans HN.out)⟩
/-- What a call stops with. -/
def toldB (k : Int) : List PanicEntry := [{ v := .iface 172 (.int .i64 k), recovered := false }]
theorem bfail_raise (k : Int) (w : World) : Calls Tryz.prog 100 #[.bool true, .int .i64 k] w fun e w' => e = .panicked (toldB k) ∧ w = w' := by
  go_enter Tryz.func100, Tryz.ntmps100
  go_wp2
  exact ⟨rfl, rfl, rfl⟩
theorem bfail_pass (k : Int) (w : World) : Calls Tryz.prog 100 #[.bool false, .int .i64 k] w fun e w' => e = .returned (.tuple #[]) ∧ w = w' := by
  go_enter Tryz.func100, Tryz.ntmps100
  go_wp2
  go_end0
  exact ⟨rfl, rfl⟩
theorem bcaught_idle (p : Addr) (w : World) :
    CallsD Tryz.prog 98 #[.pointer (some p)] .returning w fun e u' w' => e = .returned (.tuple #[]) ∧ u' = .returning ∧ w' = w := by
  refine callsD_of_wpS Tryz.func98 rfl fun c₀ cs hu => ?_
  apply wpS_seq
  apply wpS_region
  simp [wpOpsS, go_sem, recoverD, hu, Tryz.ntmps98, Exit.thenS]
  apply wpS_seq
  refine wpS_of_wp ?_
  go_wp2
  refine wpS_cond (t := false) (by simp [Act.eval, Array.replicate]) ?_
  simp only [Bool.false_eq_true, if_false]
  refine wpS_of_wp (wp_skip ?_)
  cases c₀
  simp_all [bodyPostS, results, Tryz.results98]
set_option maxRecDepth 100000 in
set_option maxHeartbeats 1000000 in
theorem bcaught_told (q : Nat) (k : Int) (w : World) (hq : Blk w q #[.int .i64 0] 28) :
    CallsD Tryz.prog 98 #[.pointer (some ⟨q, 0, none⟩)] (.panicking (toldB k)) w fun e u' w' =>
      e = .returned (.tuple #[]) ∧ u' = .panicking [{ v := .iface 172 (.int .i64 k), recovered := true }] ∧ Blk w' q #[.int .i64 k] 28 ∧ Mod (fun j => j = q) w w' := by
  obtain ⟨q1, q2, q3⟩ := hq.one
  have HQ := hid hq
  clear hq
  unfold toldB
  have hta : ∀ (x : Int) (w : World), (Instr.typeAssert (.iface 172 (.int .i64 x)) 20 172 true).run Tryz.prog w = .ok (.tuple #[.int .i64 x, .bool true]) w := fun _ _ => by simp [Instr.typeAssert, run_underlying Tryz.underlying172, Result.andThen]
  refine callsD_of_wpS Tryz.func98 rfl fun c₀ cs hu => ?_
  apply wpS_seq
  apply wpS_region
  simp [wpOpsS, go_sem, recoverD, hu, Tryz.ntmps98, Exit.thenS, show Array.replicate 18 undef = #[undef, undef, undef, undef, undef, undef, undef, undef, undef, undef, undef, undef, undef, undef, undef, undef, undef, undef] from rfl]
  apply wpS_seq
  refine wpS_of_wp ?_
  go_wp2
  refine wpS_cond (t := true) (by simp [Act.eval, Array.replicate]) ?_
  simp only [if_true]
  refine wpS_of_wp ?_
  go_wp2
  refine ⟨rfl, .panicking [{ v := .iface 172 (.int .i64 k), recovered := true }], ?_, .tuple #[], by simp [results, Tryz.results98], rfl, rfl, ?_, ?_⟩
  · first | rfl | (simp; done) | (cases c₀; simp_all)
  · apply Blk.row
    · repeat (first | with_reducible exact HQ.out | (with_reducible apply Blk.newAt; (simp; done)) | with_reducible apply Blk.alloc | with_reducible apply Blk.drew | with_reducible apply Blk.drewN | with_reducible apply Blk.set | (with_reducible apply Blk.other; · first | (simp; done) | (simp; omega) | omega) | (with_reducible apply Blk.putObj; · first | (simp; done) | (simp; omega) | omega))
    · rfl
  · repeat (first | with_reducible exact Mod.refl _ _ | with_reducible refine Mod.alloc ?_ _ | with_reducible refine Mod.drew ?_ | with_reducible refine Mod.drewN ?_ _ | (with_reducible refine Mod.set ?_ _ _ (by first | exact .inl rfl | (right; omega) | (right; simp; done) | (right; simp; omega) | (left; omega) | (left; simp; done) | (left; simp; omega))) | (with_reducible refine Mod.putObj ?_ _ _ (by first | exact .inl rfl | (right; omega) | (right; simp; done) | (right; simp; omega) | (left; omega) | (left; simp; done) | (left; simp; omega))))
end Go.Proofs.YtbgmkplpolgebaaGreatDoor
