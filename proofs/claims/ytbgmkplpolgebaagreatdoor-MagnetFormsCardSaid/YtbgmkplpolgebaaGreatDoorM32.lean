/-
  Several texts in one, in their build order. What the reference's reading of an address finds in an address's text. Plain Lean, no program. No condition. The reference's addresses: Valid, group, text. Conditions: the address is right. The walks of Valid (package magnet, and the reference), of any magnet. Condition: the magnet lies as told.
-/
import Derived.Test.YtbgmkplpolgebaaGreatDoorM10
import Derived.Test.YtbgmkplpolgebaaGreatDoorM1
import Derived.Test.YtbgmkplpolgebaaGreatDoorM22
import Derived.Test.YtbgmkplpolgebaaGreatDoorM4
import Derived.Test.YtbgmkplpolgebaaGreatDoorM31
import Derived.Deep.DeepCutAuto
namespace Go.Proofs.YtbgmkplpolgebaaGreatDoor
set_option linter.unusedSimpArgs false
set_option linter.unusedVariables false

theorem dec58 (u : Nat) : (58 : UInt8) ∉ Lib.decDigits u := dec_free (by decide) u
theorem body4_free (ip : List UInt8) : (58 : UInt8) ∉ Lib.join (ip.map (fun b => Lib.decDigits b.toNat)) [46] := by
  intro q
  rcases mem_joinC q with q | ⟨x, hx, q⟩
  · cases q
  · obtain ⟨b, -, rfl⟩ := List.mem_map.1 hx
    exact dec58 _ q
/-- What an address of family 4 looks like, cut at colons and points. -/
theorem txt4 {x : AdrV} (h : x.fam = 4) (hl : x.ip.size = 4) : pieces [] 58 (atxt x) = [bodyT x, Lib.decDigits x.port.toNat] ∧ pieces [] 46 (bodyT x) = x.ip.data.toList.map (fun b => Lib.decDigits b.toNat) ∧ (atxt x).head? ≠ some 91 := by
  have hb : bodyT x = Lib.join (x.ip.data.toList.map (fun b => Lib.decDigits b.toNat)) [46] := by unfold bodyT; rw [if_pos h]
  have hlen : x.ip.data.toList.length = 4 := by rw [Array.length_toList]; exact hl
  have hp : pieces [] 46 (bodyT x) = x.ip.data.toList.map (fun b => Lib.decDigits b.toNat) := by
    rw [hb]
    refine pieces_joinC (fun q => ?_) (fun y hy => ?_)
    · rw [List.map_eq_nil_iff] at q
      rw [q] at hlen
      cases hlen
    · obtain ⟨b, -, rfl⟩ := List.mem_map.1 hy
      exact dec_free (by decide) _
  refine ⟨?_, hp, ?_⟩
  · unfold atxt
    rw [pieces_app _ _ (by rw [hb]; exact body4_free _), pieces_free _ (dec58 _)]
  · unfold atxt
    intro q
    have hm : (91 : UInt8) ∈ bodyT x ++ 58 :: Lib.decDigits x.port.toNat := List.mem_of_mem_head? q
    rcases List.mem_append.1 hm with m | m
    · rw [hb] at m
      rcases mem_joinC m with m | ⟨y, hy, m⟩
      · cases m
      · obtain ⟨b, -, rfl⟩ := List.mem_map.1 hy
        exact dec_free (by decide) _ m
    · rcases List.mem_cons.1 m with m | m
      · cases m
      · exact dec_free (by decide) _ m
theorem pieces_snocC {c : UInt8} (L : List (List UInt8)) (x t : List UInt8) (h : ∀ y ∈ L, c ∉ y) (hx : c ∉ x) : pieces [] c (Lib.join (L ++ [x]) [c] ++ c :: t) = L ++ [x] ++ pieces [] c t := by
  have key : ∀ (r : List (List UInt8)) (y : List UInt8), c ∉ y → (∀ z ∈ r, c ∉ z) → pieces [] c (y ++ Lib.joinTail [c] r ++ c :: t) = y :: r ++ pieces [] c t := by
    intro r
    induction r with
    | nil =>
      intro y hy _
      have e : y ++ Lib.joinTail [c] [] ++ c :: t = y ++ c :: t := by simp [Lib.joinTail]
      rw [e, pieces_app _ _ hy]
      rfl
    | cons z r ih =>
      intro y hy hr
      have e : y ++ Lib.joinTail [c] (z :: r) ++ c :: t = y ++ c :: (z ++ Lib.joinTail [c] r ++ c :: t) := by simp [Lib.joinTail]
      rw [e, pieces_app _ _ hy, ih z (hr z (by simp)) (fun q hq => hr q (by simp [hq]))]
      rfl
  cases L with
  | nil =>
    rw [List.nil_append, Lib.join_one, pieces_app _ _ hx]
    rfl
  | cons y r =>
    rw [List.cons_append, Lib.join_cons, key (r ++ [x]) y (h y (by simp))]
    · intro z hz
      rcases List.mem_append.1 hz with q | q
      · exact h z (by simp [q])
      · simp only [List.mem_singleton] at q
        rw [q]
        exact hx
theorem join_lastC (c d : UInt8) (L : List (List UInt8)) (x : List UInt8) : Lib.join (L ++ [x]) [c] ++ [d] = Lib.join (L ++ [x ++ [d]]) [c] := by
  have key : ∀ (r : List (List UInt8)), Lib.joinTail [c] (r ++ [x]) ++ [d] = Lib.joinTail [c] (r ++ [x ++ [d]]) := by
    intro r
    induction r with
    | nil => simp [Lib.joinTail]
    | cons z r ih =>
      have e : ∀ M : List (List UInt8), Lib.joinTail [c] (z :: M) = c :: (z ++ Lib.joinTail [c] M) := fun M => by simp [Lib.joinTail]
      rw [List.cons_append, List.cons_append, e, e, ← ih]
      simp
  cases L with
  | nil => simp [Lib.join_one]
  | cons y r =>
    rw [List.cons_append, List.cons_append, Lib.join_cons, Lib.join_cons, ← key]
    simp
/-- What an address of family 6 looks like, cut at colons. -/
theorem txt6 {x : AdrV} (h : x.fam = 6) (hl : x.ip.size = 16) : ∃ (L : List Nat) (u : Nat), pairsN x.ip.data.toList = L ++ [u] ∧ L.length = 7 ∧ (∀ n ∈ L, n < 65536) ∧ u < 65536 ∧ atxt x = 91 :: (Lib.join (L.map hexG ++ [hexG u ++ [93]]) [58] ++ 58 :: Lib.decDigits x.port.toNat) ∧ pieces [] 58 ((atxt x).drop 1) = L.map hexG ++ [hexG u ++ [93], Lib.decDigits x.port.toNat] ∧ x.ip.data.toList = unpairs (L ++ [u]) := by
  have hb : bodyT x = 91 :: (Lib.join ((pairsN x.ip.data.toList).map hexG) [58] ++ [93]) := by unfold bodyT; rw [if_neg (by omega)]
  have hlen : x.ip.data.toList.length = 2 * 8 := by rw [Array.length_toList]; exact hl
  obtain ⟨p1, p2, p3⟩ := pairs_forth 8 _ hlen
  obtain ⟨N, hN⟩ : ∃ N, N = pairsN x.ip.data.toList := ⟨_, rfl⟩
  rw [← hN] at p1 p2 p3 hb ⊢
  rcases List.eq_nil_or_concat N with q | ⟨L, u, q⟩
  · rw [q] at p2; cases p2
  rw [List.concat_eq_append] at q
  subst q
  have ht : atxt x = 91 :: (Lib.join (L.map hexG ++ [hexG u ++ [93]]) [58] ++ 58 :: Lib.decDigits x.port.toNat) := by
    unfold atxt
    rw [hb, List.map_append, List.map_cons, List.map_nil, join_lastC]
    rfl
  refine ⟨L, u, rfl, by simpa using p2, fun n hn => p3 n (by simp [hn]), p3 u (by simp), ht, ?_, p1.symm⟩
  rw [ht, List.drop_succ_cons, List.drop_zero, pieces_snocC, pieces_free _ (dec58 _)]
  · simp
  · intro y hy
    obtain ⟨n, -, rfl⟩ := List.mem_map.1 hy
    exact hex_free (by decide) n
  · intro q
    rcases List.mem_append.1 q with q | q
    · exact hex_free (by decide) u q
    · simp at q
theorem aP_txt {x : AdrV} (h : adrOk x = true) : aP (atxt x) = some x := by
  obtain ⟨hf, hp1, hp2⟩ := adrOk_iff.1 h
  have hl : lastC 58 (atxt x) = some (bodyT x, Lib.decDigits x.port.toNat) := lastC_app (dec58 _) _
  have hn : numA 10 65535 (Lib.decDigits x.port.toNat) = some x.port.toNat := numA_fmt (.inl rfl) (by omega) (by omega)
  have hpt : ((x.port.toNat : Nat) : Int) = x.port := by omega
  have hmk : mkB x.ip.data.toList = x.ip := data_mkB x.ip
  rcases hf with ⟨hf, hs⟩ | ⟨hf, hs⟩
  · obtain ⟨t1, t2, t3⟩ := txt4 hf hs
    have hlen : x.ip.data.toList.length = 4 := by rw [Array.length_toList]; exact hs
    have hb0 : bodyT x ≠ [] := by
      intro q
      rw [q] at t2
      have := congrArg List.length t2
      rw [List.length_map, hlen] at this
      cases this
    have hip : ipP (atxt x) (bodyT x) = some (4, x.ip.data.toList) := by
      unfold ipP
      rw [if_neg t3]
      have : read4 (bodyT x) = some x.ip.data.toList := by
        unfold read4
        rw [t2]
        have e : x.ip.data.toList.map (fun b => Lib.decDigits b.toNat) = (x.ip.data.toList.map (fun b => b.toNat)).map (fmtU 10) := by rw [List.map_map]; rfl
        rw [e, numsA_map (.inl rfl) (by omega) _ (fun n hn => by
          obtain ⟨b, -, rfl⟩ := List.mem_map.1 hn
          have := b.toNat_lt
          omega)]
        simp only
        rw [if_pos (by rw [List.length_map, hlen]), b8_back]
      rw [this]
      rfl
    unfold aP
    rw [hl]
    simp only
    rw [if_neg hb0, hip]
    simp only
    rw [hn]
    simp only
    rw [if_neg (by omega), hpt, hmk, ← hf]
  · obtain ⟨L, u, q1, q2, q3, q4, t1, t2, t3⟩ := txt6 hf hs
    have hbd : bodyT x = 91 :: (Lib.join ((L ++ [u]).map hexG) [58] ++ [93]) := by unfold bodyT; rw [if_neg (by omega), q1]
    have hb0 : bodyT x ≠ [] := by rw [hbd]; simp
    have hip : ipP (atxt x) (bodyT x) = some (6, x.ip.data.toList) := by
      unfold ipP
      rw [if_pos (by rw [t1]; rfl)]
      have hin : inner (bodyT x) = Lib.join ((L ++ [u]).map hexG) [58] := by
        unfold inner
        rw [hbd, List.drop_succ_cons, List.drop_zero, List.dropLast_concat]
      have hJ : Lib.join ((L ++ [u]).map hexG) [58] ≠ [] := by
        intro q
        have h8 : pieces [] 58 (Lib.join ((L ++ [u]).map hexG) [58]) = (L ++ [u]).map hexG := pieces_joinC (by simp) (fun y hy => by
          obtain ⟨n, -, rfl⟩ := List.mem_map.1 hy
          exact hex_free (by decide) n)
        rw [q] at h8
        have := congrArg List.length h8
        simp [pieces, q2] at this
      have : read6 (bodyT x) = some x.ip.data.toList := by
        unfold read6
        rw [if_pos, hin, pieces_joinC (by simp) (fun y hy => by
          obtain ⟨n, -, rfl⟩ := List.mem_map.1 hy
          exact hex_free (by decide) n)]
        · have e : (L ++ [u]).map hexG = (L ++ [u]).map (fmtU 16) := rfl
          rw [e, numsA_map (.inr rfl) (by omega) _ (fun n hn => by
            rcases List.mem_append.1 hn with q | q
            · have := q3 n q; omega
            · simp only [List.mem_singleton] at q; omega)]
          simp only
          rw [if_pos (by simp [q2]), t3]
        · have := List.length_pos_iff.2 hJ
          refine ⟨by rw [hbd, List.length_cons, List.length_append, List.length_singleton]; omega, by rw [hbd]; rfl, ?_⟩
          rw [hbd, ← List.cons_append, List.getLast?_concat]
      rw [this]
      rfl
    unfold aP
    rw [hl]
    simp only
    rw [if_neg hb0, hip]
    simp only
    rw [hn]
    simp only
    rw [if_neg (by omega), hpt, hmk, ← hf]
end Go.Proofs.YtbgmkplpolgebaaGreatDoor

namespace Go.Proofs.YtbgmkplpolgebaaGreatDoor
set_option linter.unusedSimpArgs false
set_option linter.unusedVariables false
open Go.RowKit Go.Shelf

theorem dec_byte (m : Nat) (h : m ≤ 100000) (w : World) : Calls Tryz.prog 121 #[.int .i64 m] w fun e w' => e = .returned (.string (mkB (Lib.decDigits m))) ∧ New w w' := by
  have := decimal_nat m (by omega) w
  rw [show itoaB (m : Int) = mkB (Lib.decDigits m) by unfold itoaB; rw [itoa_nat]; rfl] at this
  exact this
theorem hexD_ext {k : Nat} (h : k < 16) : (⟨#[48, 49, 50, 51, 52, 53, 54, 55, 56, 57, 97, 98, 99, 100, 101, 102]⟩ : ByteArray).extract k (k + 1) = mkB [hexD k] := by
  have key : ∀ k : Nat, k < 16 → (⟨#[48, 49, 50, 51, 52, 53, 54, 55, 56, 57, 97, 98, 99, 100, 101, 102]⟩ : ByteArray).extract k (k + 1) = mkB [hexD k] := by decide +kernel
  exact key k h
theorem mkB_app (a b : List UInt8) : mkB a ++ mkB b = mkB (a ++ b) := by
  apply bytes_ext
  rw [ByteArray.data_append, Array.toList_append]
  rfl
set_option maxRecDepth 100000 in
set_option maxHeartbeats 1000000 in
theorem group_any (m : Nat) : m < 65536 → ∀ w : World, Calls Tryz.prog 159 #[.int .i64 m] w fun e w' => e = .returned (.string (mkB (hexG m))) ∧ w = w' := by
  induction m using Nat.strongRecOn with
  | ind m ih =>
    intro hm w
    obtain ⟨K, hK⟩ : ∃ K, K = m % 16 := ⟨_, rfl⟩
    have hk16 : K < 16 := by omega
    have hr2 : (m : Int) % 16 = (K : Int) := by omega
    have hr : ((m : Int)).tmod 16 = (K : Int) := by rw [Int.tmod_eq_emod_of_nonneg (by omega)]; omega
    have hx := hexD_ext hk16
    have hw : IntKind.i64.wrap ((K : Int) + 1) = (K : Int) + 1 := IntWalk.i64_in _ (by omega)
    have kn : ((K : Int) + 1).toNat = K + 1 := by omega
    by_cases h : m < 16
    · have hmm : K = m := by omega
      have HI := hid (show hexG m = [hexD K] by rw [hmm, hexG_one h])
      have hI : (m : Int) < 16 := by omega
      clear ih hK hmm h
      go_enter Tryz.func159, Tryz.ntmps159
      go_wp2
      go_ret
      exact ⟨ret_str (by rw [HI.out]), rfl⟩
    · have e16 : (m : Int) / 16 = ((m / 16 : Nat) : Int) := by omega
      have HI := hid (show hexG m = hexG (m / 16) ++ [hexD K] by rw [hK, hexG_more h])
      have IH := hid (ih (m / 16) (by omega) (by omega))
      have hs1 : (mkB (hexG (m / 16))).size ≤ 4 := by
        have := hexG_len (m / 16) (by omega)
        rw [show (mkB (hexG (m / 16))).size = (hexG (m / 16)).length from size_list _]
        exact this
      have hs2 : (mkB [hexD K]).size = 1 := rfl
      have hI : ¬ (m : Int) < 16 := by omega
      obtain ⟨Q, hQ⟩ : ∃ Q, Q = m / 16 := ⟨_, rfl⟩
      rw [← hQ] at e16 HI IH hs1
      clear ih hK h hQ
      go_enter Tryz.func159, Tryz.ntmps159
      go_wp2_with (go_at_call 159; refine (IH.out _).mono ?_; rintro e w1 ⟨rfl, rfl⟩)
      go_ret
      exact ⟨ret_str (by rw [HI.out, mkB_app]), rfl⟩
set_option maxRecDepth 100000 in
set_option maxHeartbeats 1000000 in
theorem rAdrValid_any (x : AdrV) (w : World) : Calls Tryz.prog 61 #[.agg #[.int .i64 x.fam, .string x.ip, .int .i64 x.port]] w fun e w' => e = .returned (.bool (adrOk x)) ∧ New w w' := by
  obtain ⟨fam, ip, port⟩ := x
  simp only
  have HV := hid (show adrOk ⟨fam, ip, port⟩ = (((fam == 4) && ((ip.size : Int) == 4) || (fam == 6) && ((ip.size : Int) == 16)) && decide (1 ≤ port) && decide (port ≤ 65535)) by
    unfold adrOk
    have h1 : ((ip.size : Int) == 4) = decide (ip.size = 4) := by rw [Bool.eq_iff_iff, beq_iff_eq, decide_eq_true_eq]; omega
    have h2 : ((ip.size : Int) == 16) = decide (ip.size = 16) := by rw [Bool.eq_iff_iff, beq_iff_eq, decide_eq_true_eq]; omega
    have h3 : (fam == 4) = decide (fam = 4) := by rw [Bool.eq_iff_iff, beq_iff_eq, decide_eq_true_eq]
    have h4 : (fam == 6) = decide (fam = 6) := by rw [Bool.eq_iff_iff, beq_iff_eq, decide_eq_true_eq]
    rw [h1, h2, h3, h4])
  have B0 := Blk.new w #[.int .i64 fam, .string ip, .int .i64 port] 64
  have c0 := B0.cellv 0 rfl; have c1 := B0.cellv 1 rfl; have c2 := B0.cellv 2 rfl
  clear B0
  have key : ∀ (a b c d e f : Bool), (fam == 4) = a → ((ip.size : Int) == 4) = b → (fam == 6) = c → ((ip.size : Int) == 16) = d → decide (1 ≤ port) = e → decide (port ≤ 65535) = f → Calls Tryz.prog 61 #[.agg #[.int .i64 fam, .string ip, .int .i64 port]] w fun e w' => e = .returned (.bool (adrOk ⟨fam, ip, port⟩)) ∧ New w w' := by
    intro a b c d e f ha hb hc hd he hf
    rw [ha, hb, hc, hd, he, hf] at HV
    have he2 : decide (port ≥ 1) = e := he
    cases a <;> cases b <;> cases c <;> cases d <;> cases e <;> cases f <;> (
      go_enter Tryz.func61, Tryz.ntmps61
      go_wp2
      go_ret
      exact ⟨ret_bool HV.out.symm, (Mod.refl _ _).alloc _⟩)
  exact key _ _ _ _ _ _ rfl rfl rfl rfl rfl rfl
end Go.Proofs.YtbgmkplpolgebaaGreatDoor

namespace Go.Proofs.YtbgmkplpolgebaaGreatDoor
set_option linter.unusedSimpArgs false
set_option linter.unusedVariables false
open Go.RowKit Go.Shelf

theorem sz3 (n : Nat) (z : Int) (hz : z = (n : Int)) (hn : n ≠ 0) (s : ByteArray) : (s.size = 0 ∧ lenOr n s = true ∧ (s.toList == []) = true ∧ s.toList.isEmpty = true) ∨ (s.size = n ∧ s.size ≠ 0 ∧ lenOr n s = true ∧ (s.toList == []) = false ∧ s.toList.isEmpty = false ∧ ((s.size : Int) == z) = true) ∨ (lenOr n s = false ∧ (s.toList == []) = false ∧ s.toList.isEmpty = false ∧ ((s.size : Int) == z) = false) := by
  have hl : s.data.toList.length = s.size := by rw [Array.length_toList]; rfl
  by_cases h0 : s.size = 0
  · left
    have e : s.data.toList = [] := List.eq_nil_of_length_eq_zero (by omega)
    exact ⟨h0, lenOr_iff.2 (.inl h0), by rw [beq_iff_eq, ByteArray.toList_eq]; exact e, by rw [ByteArray.toList_eq, e]; rfl⟩
  · have e : s.data.toList ≠ [] := fun e => by rw [e] at hl; exact h0 hl.symm
    have e1 : (s.toList == []) = false := by rw [beq_eq_false_iff_ne, ByteArray.toList_eq]; exact e
    have e2 : s.toList.isEmpty = false := by
      rw [ByteArray.toList_eq]
      cases hq : s.data.toList with
      | nil => exact absurd hq e
      | cons a b => rfl
    by_cases h1 : s.size = n
    · exact .inr (.inl ⟨h1, h0, lenOr_iff.2 (.inr h1), e1, e2, by rw [beq_iff_eq]; omega⟩)
    · refine .inr (.inr ⟨?_, e1, e2, by rw [beq_eq_false_iff_ne]; omega⟩)
      cases hq : lenOr n s with
      | false => rfl
      | true => exact absurd (lenOr_iff.1 hq) (by omega)
/-- Two topics, one behind the other. -/
theorem both_sz (a b : ByteArray) : ((a ++ b).toList == []) = (decide (a.size = 0) && decide (b.size = 0)) ∧ (a ++ b).toList.isEmpty = (decide (a.size = 0) && decide (b.size = 0)) := by
  have hl : (a ++ b).data.toList.length = a.size + b.size := by
    rw [Array.length_toList]
    exact ByteArray.size_append
  by_cases h : a.size = 0 ∧ b.size = 0
  · have e : (a ++ b).data.toList = [] := List.eq_nil_of_length_eq_zero (by omega)
    rw [decide_eq_true h.1, decide_eq_true h.2]
    refine ⟨?_, by rw [ByteArray.toList_eq, e]; rfl⟩
    show ((a ++ b).toList == []) = true
    rw [beq_iff_eq, ByteArray.toList_eq]
    exact e
  · have e : (a ++ b).data.toList ≠ [] := fun e => by rw [e] at hl; exact h ⟨by simp at hl; omega, by simp at hl; omega⟩
    have ed : (decide (a.size = 0) && decide (b.size = 0)) = false := by
      rw [Bool.and_eq_false_iff, decide_eq_false_iff_not, decide_eq_false_iff_not]
      omega
    rw [ed]
    refine ⟨by rw [beq_eq_false_iff_ne, ByteArray.toList_eq]; exact e, ?_⟩
    rw [ByteArray.toList_eq]
    cases hq : (a ++ b).data.toList with
    | nil => exact absurd hq e
    | cons a b => rfl
def topsB (m : MgV) : Bool := lenOr 20 m.old && (lenOr 32 m.new && !(decide (m.old.size = 0) && decide (m.new.size = 0)))
def bT (m : MgV) : Bool := decide (m.tr.length ≤ 10) && m.tr.all textM
def bW (m : MgV) : Bool := decide (m.ws.length ≤ 10) && m.ws.all textM
def bP (m : MgV) : Bool := decide (m.pe.length ≤ 20) && m.pe.all adrOk
theorem validMg_form (m : MgV) : validMg m = (topsB m && (decide (m.name.size ≤ 100) && (bT m && (bW m && (bP m && onB m.on))))) := by
  unfold validMg topsB bT bW bP
  simp only [Bool.and_assoc]
theorem tops_old {m : MgV} (h : lenOr 20 m.old = false) : topsB m = false := by unfold topsB; rw [h]; rfl
theorem tops_new {m : MgV} (h : lenOr 32 m.new = false) : topsB m = false := by unfold topsB; rw [h, Bool.false_and, Bool.and_false]
theorem tops_sz {m : MgV} (h : lenOr 20 m.old = true) (k : lenOr 32 m.new = true) : topsB m = !(decide (m.old.size = 0) && decide (m.new.size = 0)) := by unfold topsB; rw [h, k]; rfl
set_option maxRecDepth 100000 in
set_option maxHeartbeats 8000000 in
theorem mValid_any (m : MgV) (p : MgP) (w : World) (h : MagAt w m p) :
    Calls Tryz.prog 11 #[magVal m p] w fun e w' => e = .returned (.bool (validMg m)) ∧ New w w' := by
  obtain ⟨ta, tc, pa, pc, sa, sc, oa, oc⟩ := p
  simp only [magVal, magRow]
  have BX : Hid (Blk (w.alloc (.cells #[.string m.old, .string m.new, .string m.name, .slice ta m.tr.length tc, .slice pa m.pe.length pc, .slice sa m.ws.length sc, .slice oa m.on.length oc] 27)) w.heap.size #[.string m.old, .string m.new, .string m.name, .slice ta m.tr.length tc, .slice pa m.pe.length pc, .slice sa m.ws.length sc, .slice oa m.on.length oc] 27) := hid (Blk.new w _ _)
  have NX : Hid (New w (w.alloc (.cells #[.string m.old, .string m.new, .string m.name, .slice ta m.tr.length tc, .slice pa m.pe.length pc, .slice sa m.ws.length sc, .slice oa m.on.length oc] 27))) := hid ((Mod.refl _ w).alloc _)
  have HT := hid (fun W (n : New w W) => allT_any 10 ta tc m.tr W (h.tr.new n))
  have HS := hid (fun W (n : New w W) => allT_any 10 sa sc m.ws W (h.ws.new n))
  have HP := hid (fun W (n : New w W) => allA_any 20 pa pc m.pe W (h.pe.new n))
  have HR := hid (fun W (n : New w W) => mruns_any oa oc m.on W (h.on.new n))
  rw [show (decide (m.tr.length ≤ 10) && m.tr.all textM) = bT m from rfl] at HT
  rw [show (decide (m.ws.length ≤ 10) && m.ws.all textM) = bW m from rfl] at HS
  rw [show (decide (m.pe.length ≤ 20) && m.pe.all adrOk) = bP m from rfl] at HP
  have HVF := hid (validMg_form m)
  obtain ⟨V, hV⟩ : ∃ V, V = validMg m := ⟨_, rfl⟩
  rw [← hV] at HVF ⊢
  clear h hV
  go_enter Tryz.func11, Tryz.ntmps11
  go_upto_region 1 with fail
  go_cut [3] (fun s3 wx => s3 = .bool (topsB m) ∧ wx = w.alloc (.cells #[.string m.old, .string m.new, .string m.name, .slice ta m.tr.length tc, .slice pa m.pe.length pc, .slice sa m.ws.length sc, .slice oa m.on.length oc] 27))
  case first =>
    rcases sz3 20 20 rfl (by decide) m.old with ⟨o1, o2, o3, o4⟩ | ⟨o1, o5, o2, o3, o4, o6⟩ | ⟨o2, o3, o4, o6⟩
    · rcases sz3 32 32 rfl (by decide) m.new with ⟨n1, n2, n3, n4⟩ | ⟨n1, n5, n2, n3, n4, n6⟩ | ⟨n2, n3, n4, n6⟩
      · have hadd : ∀ w, (Op.stringOp .add m.old m.new).run Tryz.prog w = .ok (.string (m.old ++ m.new)) w := fun w => run_string_add_sum (w := w) _ _ (by omega)
        have q := both_sz m.old m.new
        rw [decide_eq_true o1, decide_eq_true n1] at q
        obtain ⟨q1, q2⟩ := (show ((m.old ++ m.new).toList == []) = true ∧ (m.old ++ m.new).toList.isEmpty = true from q)
        have q3 : ((m.old ++ m.new).toList != []) = !true := by rw [bne, q1]
        simp only [Bool.not_true, Bool.not_false] at q3
        obtain ⟨OM, hOM⟩ : ∃ OM, OM = m.old ++ m.new := ⟨_, rfl⟩
        rw [← hOM] at hadd q1 q2 q3
        clear hOM q
        have HTB := hid (show topsB m = false by rw [tops_sz o2 n2, decide_eq_true o1, decide_eq_true n1]; rfl)
        clear o1 n1 o2 n2
        go_wp2
        go_meet
        exact ⟨by rw [HTB.out], rfl⟩
      · have hadd : ∀ w, (Op.stringOp .add m.old m.new).run Tryz.prog w = .ok (.string (m.old ++ m.new)) w := fun w => run_string_add_sum (w := w) _ _ (by omega)
        have q := both_sz m.old m.new
        rw [decide_eq_true o1, decide_eq_false n5] at q
        obtain ⟨q1, q2⟩ := (show ((m.old ++ m.new).toList == []) = false ∧ (m.old ++ m.new).toList.isEmpty = false from q)
        have q3 : ((m.old ++ m.new).toList != []) = !false := by rw [bne, q1]
        simp only [Bool.not_true, Bool.not_false] at q3
        obtain ⟨OM, hOM⟩ : ∃ OM, OM = m.old ++ m.new := ⟨_, rfl⟩
        rw [← hOM] at hadd q1 q2 q3
        clear hOM q
        have HTB := hid (show topsB m = true by rw [tops_sz o2 n2, decide_eq_true o1, decide_eq_false n5]; rfl)
        clear o1 n1 n5 o2 n2
        go_wp2
        go_meet
        exact ⟨by rw [HTB.out], rfl⟩
      · have HTB := hid (tops_new n2)
        clear o1 o2 n2
        go_wp2
        go_meet
        exact ⟨by rw [HTB.out], rfl⟩
    · rcases sz3 32 32 rfl (by decide) m.new with ⟨n1, n2, n3, n4⟩ | ⟨n1, n5, n2, n3, n4, n6⟩ | ⟨n2, n3, n4, n6⟩
      · have hadd : ∀ w, (Op.stringOp .add m.old m.new).run Tryz.prog w = .ok (.string (m.old ++ m.new)) w := fun w => run_string_add_sum (w := w) _ _ (by omega)
        have q := both_sz m.old m.new
        rw [decide_eq_false o5] at q
        obtain ⟨q1, q2⟩ := (show ((m.old ++ m.new).toList == []) = false ∧ (m.old ++ m.new).toList.isEmpty = false from q)
        have q3 : ((m.old ++ m.new).toList != []) = !false := by rw [bne, q1]
        simp only [Bool.not_true, Bool.not_false] at q3
        obtain ⟨OM, hOM⟩ : ∃ OM, OM = m.old ++ m.new := ⟨_, rfl⟩
        rw [← hOM] at hadd q1 q2 q3
        clear hOM q
        have HTB := hid (show topsB m = true by rw [tops_sz o2 n2, decide_eq_false o5]; rfl)
        clear o1 n1 o5 o2 n2
        go_wp2
        go_meet
        exact ⟨by rw [HTB.out], rfl⟩
      · have hadd : ∀ w, (Op.stringOp .add m.old m.new).run Tryz.prog w = .ok (.string (m.old ++ m.new)) w := fun w => run_string_add_sum (w := w) _ _ (by omega)
        have q := both_sz m.old m.new
        rw [decide_eq_false o5] at q
        obtain ⟨q1, q2⟩ := (show ((m.old ++ m.new).toList == []) = false ∧ (m.old ++ m.new).toList.isEmpty = false from q)
        have q3 : ((m.old ++ m.new).toList != []) = !false := by rw [bne, q1]
        simp only [Bool.not_true, Bool.not_false] at q3
        obtain ⟨OM, hOM⟩ : ∃ OM, OM = m.old ++ m.new := ⟨_, rfl⟩
        rw [← hOM] at hadd q1 q2 q3
        clear hOM q
        have HTB := hid (show topsB m = true by rw [tops_sz o2 n2, decide_eq_false o5]; rfl)
        clear o1 n1 o5 n5 o2 n2
        go_wp2
        go_meet
        exact ⟨by rw [HTB.out], rfl⟩
      · have HTB := hid (tops_new n2)
        clear o1 o5 o2 n2
        go_wp2
        go_meet
        exact ⟨by rw [HTB.out], rfl⟩
    · have HTB := hid (tops_old o2)
      clear o2
      go_wp2
      go_meet
      exact ⟨by rw [HTB.out], rfl⟩
  case rest =>
    obtain ⟨rfl, rfl⟩ := hcut
    cases htb : topsB m with
    | false =>
      have HV := hid (show V = false by rw [HVF.out, htb]; rfl)
      clear htb
      go_wp2
      go_ret
      exact ⟨ret_bool HV.out.symm, NX.out⟩
    | true =>
      have HV1 := hid (show V = (decide (m.name.size ≤ 100) && (bT m && (bW m && (bP m && onB m.on)))) by rw [HVF.out, htb, Bool.true_and])
      clear htb
      by_cases hn : m.name.size ≤ 100
      rotate_left
      · have hI : ¬ (m.name.size : Int) ≤ 100 := by omega
        have HV := hid (show V = false by rw [HV1.out, decide_eq_false hn]; rfl)
        clear hn
        go_wp2
        go_ret
        exact ⟨ret_bool HV.out.symm, NX.out⟩
      have hI : (m.name.size : Int) ≤ 100 := by omega
      have HV2 := hid (show V = (bT m && (bW m && (bP m && onB m.on))) by rw [HV1.out, decide_eq_true hn, Bool.true_and])
      clear hn
      go_wp2_with fail
      refine (HT.out _ NX.out).mono ?_
      rintro e w1 ⟨rfl, n1⟩
      have N1 := hid (NX.out.trans n1)
      have B1 := hid (New.blk n1 BX.out)
      have c5 : w1.cell? ⟨w.heap.size, 5, none⟩ = some (.slice sa m.ws.length sc) := B1.out.cellv 5 rfl
      clear n1
      cases hb : bT m with
      | false =>
        have HV := hid (show V = false by rw [HV2.out, hb]; rfl)
        clear hb
        go_wp2
        go_ret
        exact ⟨ret_bool HV.out.symm, N1.out⟩
      | true =>
        have HV3 := hid (show V = (bW m && (bP m && onB m.on)) by rw [HV2.out, hb, Bool.true_and])
        clear hb
        go_wp2_with fail
        refine (HS.out _ N1.out).mono ?_
        rintro e w2 ⟨rfl, n2⟩
        have N2 := hid (N1.out.trans n2)
        have B2 := hid (New.blk n2 B1.out)
        have c4 : w2.cell? ⟨w.heap.size, 4, none⟩ = some (.slice pa m.pe.length pc) := B2.out.cellv 4 rfl
        clear n2 c5
        cases hb : bW m with
        | false =>
          have HV := hid (show V = false by rw [HV3.out, hb]; rfl)
          clear hb
          go_wp2
          go_ret
          exact ⟨ret_bool HV.out.symm, N2.out⟩
        | true =>
          have HV4 := hid (show V = (bP m && onB m.on) by rw [HV3.out, hb, Bool.true_and])
          clear hb
          go_wp2_with fail
          refine (HP.out _ N2.out).mono ?_
          rintro e w3 ⟨rfl, n3⟩
          have N3 := hid (N2.out.trans n3)
          have B3 := hid (New.blk n3 B2.out)
          have c6 : w3.cell? ⟨w.heap.size, 6, none⟩ = some (.slice oa m.on.length oc) := B3.out.cellv 6 rfl
          clear n3 c4
          cases hb : bP m with
          | false =>
            have HV := hid (show V = false by rw [HV4.out, hb]; rfl)
            clear hb
            go_wp2
            go_ret
            exact ⟨ret_bool HV.out.symm, N3.out⟩
          | true =>
            have HV := hid (show V = onB m.on by rw [HV4.out, hb, Bool.true_and])
            clear hb
            go_wp2_with fail
            refine (HR.out _ N3.out).mono ?_
            rintro e w4 ⟨rfl, n4⟩
            have N4 := hid (N3.out.trans n4)
            clear n4 c6
            obtain ⟨B, hB⟩ : ∃ B, B = onB m.on := ⟨_, rfl⟩
            rw [← hB] at HV ⊢
            clear hB
            go_wp2
            go_ret
            exact ⟨ret_bool HV.out.symm, N4.out⟩
end Go.Proofs.YtbgmkplpolgebaaGreatDoor
