/-
  Several texts in one, in their build order. The two replacements of a comma's escape are one pass. Plain Lean, no program. No condition. What a magnet's text says, told once in plain words. Plain Lean, no program. No condition. The walks of a field's has and set (package bits): a bit read, a bit written. Conditions: the field's bytes lie as told; the number is one of them. The walks of Wrong, Valid, fail, open and caught (package bits) for fields that are right. Condition: at most 4096 bits. The walk of open (package bits) for one field, and Has and Set. Conditions: the field is right; at most 4096 bits.
-/
import Derived.Test.YtbgmkplpolgebaaGreatDoorM1
import Derived.Lib.Replace
import Derived.Lib.CountLaws
import Derived.Lib.IndexMore
import Derived.Test.YtbgmkplpolgebaaGreatDoorM8
import Derived.Test.YtbgmkplpolgebaaGreatDoorM10
import Derived.Test.YtbgmkplpolgebaaGreatDoorM5
import Derived.Test.YtbgmkplpolgebaaGreatDoorM9
import Derived.Test.YtbgmkplpolgebaaGreatDoorM2
import Derived.Defers
import Derived.Recover
import Derived.Deep.AppendLies
namespace Go.Proofs.YtbgmkplpolgebaaGreatDoor
set_option linter.unusedSimpArgs false
set_option linter.unusedVariables false

/-- '%2' and c replaced by a comma. -/
def rep (c : UInt8) : List UInt8 → List UInt8
  | x :: y :: z :: r => if x = 37 ∧ y = 50 ∧ z = c then 44 :: rep c r else x :: rep c (y :: z :: r)
  | s => s
theorem rep_hit (c : UInt8) (r : List UInt8) : rep c (37 :: 50 :: c :: r) = 44 :: rep c r := by
  rw [rep, if_pos ⟨rfl, rfl, rfl⟩]
theorem rep_no (c x : UInt8) (t : List UInt8) (h : ¬ (x = 37 ∧ ∃ u, t = 50 :: c :: u)) : rep c (x :: t) = x :: rep c t := by
  match t, h with
  | [], _ => rfl
  | [y], _ => rfl
  | y :: z :: r, h =>
    rw [rep, if_neg]
    rintro ⟨h1, h2, h3⟩
    exact h ⟨h1, r, by rw [h2, h3]⟩
theorem rep_head (c y : UInt8) (l : List UInt8) : ∃ h t, rep c (y :: l) = h :: t ∧ (h = y ∨ y = 37 ∧ h = 44) := by
  by_cases q : y = 37 ∧ ∃ u, l = 50 :: c :: u
  · obtain ⟨rfl, u, rfl⟩ := q
    exact ⟨44, rep c u, rep_hit c u, .inr ⟨rfl, rfl⟩⟩
  · exact ⟨y, rep c l, rep_no c y l q, .inl rfl⟩
theorem pre_three (c b : UInt8) (l : List UInt8) : ([37, 50, c] : List UInt8).isPrefixOf (b :: l) = true ↔ (b = 37 ∧ ∃ u, l = 50 :: c :: u) := by
  match l with
  | [] => simp [List.isPrefixOf]
  | [y] => simp [List.isPrefixOf]
  | y :: z :: r =>
    simp only [List.isPrefixOf, Bool.and_eq_true, beq_iff_eq]
    constructor
    · rintro ⟨h1, h2, h3, -⟩
      exact ⟨h1.symm, r, by rw [← h2, ← h3]⟩
    · rintro ⟨h1, u, h2⟩
      injection h2 with h2 h3
      injection h3 with h3 h4
      exact ⟨h1.symm, h2.symm, h3.symm, trivial⟩
theorem rep_index (c : UInt8) : ∀ s : List UInt8, (Lib.index s [37, 50, c] = -1 → rep c s = s) ∧ (∀ i : Nat, Lib.index s [37, 50, c] = i → rep c s = s.take i ++ 44 :: rep c (s.drop (i + 3)))
  | [] => ⟨fun _ => rfl, fun i h => by simp [Lib.index] at h⟩
  | b :: l => by
    obtain ⟨h1, h2⟩ := rep_index c l
    have hge := Lib.index_ge l [37, 50, c]
    rw [Lib.index]
    by_cases q : b = 37 ∧ ∃ u, l = 50 :: c :: u
    · rw [if_pos ((pre_three c b l).2 q)]
      obtain ⟨rfl, u, rfl⟩ := q
      refine ⟨fun h => by omega, fun i h => ?_⟩
      obtain rfl : i = 0 := by omega
      rw [rep_hit]
      rfl
    · rw [if_neg (fun h => q ((pre_three c b l).1 h))]
      rw [rep_no c b l q]
      by_cases e : Lib.index l [37, 50, c] = -1
      · rw [if_pos (by rw [e]; rfl)]
        refine ⟨fun _ => by rw [h1 e], fun i h => by omega⟩
      · rw [if_neg (by rw [beq_iff_eq]; exact e)]
        refine ⟨fun h => by omega, fun i h => ?_⟩
        obtain ⟨j, rfl⟩ : ∃ j, i = j + 1 := ⟨i - 1, by omega⟩
        rw [h2 j (by omega), show j + 1 + 3 = (j + 3) + 1 by omega, List.drop_succ_cons, List.take_succ_cons]
        rfl
theorem repK (c : UInt8) : ∀ (k : Nat) (s : List UInt8), s.length = k → Lib.replaceK [37, 50, c] [44] (Lib.count s [37, 50, c]) s = rep c s := by
  intro k
  induction k using Nat.strongRecOn with
  | ind k ih =>
    intro s hk
    obtain ⟨h1, h2⟩ := rep_index c s
    have hge := Lib.index_ge s [37, 50, c]
    by_cases e : Lib.index s [37, 50, c] = -1
    · rw [Lib.count_miss e, Lib.replaceK, h1 e]
    · obtain ⟨i, hi⟩ : ∃ i : Nat, Lib.index s [37, 50, c] = i := ⟨(Lib.index s [37, 50, c]).toNat, by omega⟩
      have hr := Lib.index_room s [37, 50, c] (by omega)
      rw [hi] at hr
      simp only [List.length_cons, List.length_nil] at hr
      rw [Lib.count_hit (by simp) hi, Nat.add_comm, Lib.replaceK_hit _ _ _ _ _ hi, h2 i hi]
      simp only [List.length_cons, List.length_nil]
      rw [ih (s.length - (i + 3)) (by omega) (s.drop (i + 3)) (by rw [List.length_drop])]
      simp
theorem repAll (c : UInt8) (s : List UInt8) : Lib.replaceAll s [37, 50, c] [44] = rep c s := by
  unfold Lib.replaceAll Lib.replace
  rw [if_neg (by simp)]
  unfold Lib.replaceNum
  rw [if_pos (.inl (by decide))]
  exact repK c s.length s rfl
/-- Both in one pass. -/
def rep2 : List UInt8 → List UInt8
  | x :: y :: z :: r => if x = 37 ∧ y = 50 ∧ (z = 67 ∨ z = 99) then 44 :: rep2 r else x :: rep2 (y :: z :: r)
  | s => s
theorem rep2_eq : ∀ (k : Nat) (s : List UInt8), s.length = k → rep 99 (rep 67 s) = rep2 s := by
  intro k
  induction k using Nat.strongRecOn with
  | ind k ih =>
    intro s hk
    match s, hk with
    | [], _ => rfl
    | [x], _ => rfl
    | [x, y], _ => rfl
    | x :: y :: z :: r, hk =>
      simp only [List.length_cons] at hk
      rw [rep2]
      by_cases q : x = 37 ∧ y = 50 ∧ (z = 67 ∨ z = 99)
      · rw [if_pos q]
        obtain ⟨rfl, rfl, hz⟩ := q
        rcases hz with rfl | rfl
        · rw [rep_hit, rep_no 99 44 _ (by rintro ⟨h, -⟩; exact absurd h (by decide)), ih r.length (by omega) r rfl]
        · have e : rep 67 (37 :: 50 :: 99 :: r) = 37 :: 50 :: 99 :: rep 67 r := by
            rw [rep_no 67 37 _ (by
              rintro ⟨-, u, h⟩
              injection h with _ h
              injection h with h _
              exact absurd h (by decide)), rep_no 67 50 _ (by rintro ⟨h, -⟩; exact absurd h (by decide)), rep_no 67 99 _ (by rintro ⟨h, -⟩; exact absurd h (by decide))]
          rw [e, rep_hit, ih r.length (by omega) r rfl]
      · rw [if_neg q]
        have n67 : ¬ (x = 37 ∧ ∃ u, y :: z :: r = 50 :: 67 :: u) := by
          rintro ⟨h1, u, h2⟩
          injection h2 with h2 h3
          injection h3 with h3 _
          exact q ⟨h1, h2, .inl h3⟩
        rw [rep_no 67 x _ n67, rep_no 99 x, ih (r.length + 2) (by omega) (y :: z :: r) (by simp)]
        rintro ⟨h1, u, h2⟩
        by_cases hy : y = 50
        · subst hy
          rw [rep_no 67 50 _ (by rintro ⟨h, -⟩; exact absurd h (by decide))] at h2
          injection h2 with _ h2
          obtain ⟨h, t, e, hh⟩ := rep_head 67 z r
          rw [e] at h2
          injection h2 with h2 _
          rcases hh with rfl | ⟨rfl, rfl⟩
          · exact q ⟨h1, rfl, .inr h2⟩
          · exact absurd h2 (by decide)
        · obtain ⟨h, t, e, hh⟩ := rep_head 67 y (z :: r)
          rw [e] at h2
          injection h2 with h2 _
          rcases hh with rfl | ⟨rfl, rfl⟩
          · exact hy h2
          · exact absurd h2 (by decide)
theorem rep_len (c : UInt8) : ∀ (k : Nat) (s : List UInt8), s.length = k → (rep c s).length ≤ s.length := by
  intro k
  induction k using Nat.strongRecOn with
  | ind k ih =>
    intro s hk
    match s, hk with
    | [], _ => exact Nat.le_refl _
    | [x], _ => exact Nat.le_refl _
    | [x, y], _ => exact Nat.le_refl _
    | x :: y :: z :: r, hk =>
      simp only [List.length_cons] at hk
      rw [rep]
      split
      · have := ih r.length (by omega) r rfl
        simp only [List.length_cons]
        omega
      · have := ih (r.length + 2) (by omega) (y :: z :: r) (by simp)
        simp only [List.length_cons] at *
        omega
end Go.Proofs.YtbgmkplpolgebaaGreatDoor

namespace Go.Proofs.YtbgmkplpolgebaaGreatDoor
set_option linter.unusedSimpArgs false
set_option linter.unusedVariables false

/-- A magnet under way. -/
structure MgV where
  old : ByteArray
  new : ByteArray
  name : ByteArray
  tr : List ByteArray
  pe : List AdrV
  ws : List ByteArray
  on : List (Int × Int)
  named : Bool
  only : Bool
def mg0 : MgV := ⟨⟨#[]⟩, ⟨#[]⟩, ⟨#[]⟩, [], [], [], [], false, false⟩
def rdZero (m : MgV) : RdM := ⟨m.old, m.new, m.name, .slice none 0 0, .slice none 0 0, .slice none 0 0, .slice none 0 0, m.named, m.only⟩
/-- A topic read. -/
def topM (m : MgV) (s : ByteArray) : Except Int MgV := match topicR (rdZero m) s with
  | .ok r => .ok { m with old := r.old, new := r.new }
  | .error k => .error k
def nameM (m : MgV) (s : List UInt8) : Except Int MgV := match loose s with
  | none => .error 2
  | some x => if 100 < x.length then .error 2 else if m.named then .error 6 else .ok { m with name := mkB x, named := true }
/-- A text of a list read. -/
def textP (l : List ByteArray) (s : List UInt8) : Except Int (List ByteArray) := match loose s with
  | none => .error 2
  | some x => if x = [] ∨ 200 < x.length then .error 2 else if 10 ≤ l.length then .error 4 else .ok (l ++ [mkB x])
def trM (m : MgV) (s : List UInt8) : Except Int MgV := match textP m.tr s with
  | .ok l => .ok { m with tr := l }
  | .error k => .error k
def wsM (m : MgV) (s : List UInt8) : Except Int MgV := match textP m.ws s with
  | .ok l => .ok { m with ws := l }
  | .error k => .error k
def peM (m : MgV) (s : List UInt8) : Except Int MgV := match loose s with
  | none => .error 2
  | some x => match aP x with
    | none => .error 2
    | some a => if 20 ≤ m.pe.length then .error 4 else .ok { m with pe := m.pe ++ [a] }
def soM (m : MgV) (s : List UInt8) : Except Int MgV := match bitsP 40 (rep2 s) with
  | none => .error 2
  | some f => if rep2 s = [] then .error 2 else if m.only then .error 6 else .ok { m with on := runsF 40 f, only := true }
/-- A part read. -/
def partM (m : MgV) (key value : List UInt8) : Except Int MgV :=
  if key = pXt.data.toList then topM m (mkB value)
  else if key = pDn.data.toList then nameM m value
  else if key = pTr.data.toList then trM m value
  else if key = pWs.data.toList then wsM m value
  else if key = pPe.data.toList then peM m value
  else if key = pSo.data.toList then soM m value
  else .ok m
/-- A part with its '='. -/
def pieceM (m : MgV) (p : List UInt8) : Except Int MgV := if (cutB 61 p).2.2 = true then partM m (cutB 61 p).1 (cutB 61 p).2.1 else .error 2
def foldM (m : MgV) : List (List UInt8) → Except Int MgV
  | [] => .ok m
  | p :: r => match pieceM m p with
    | .error k => .error k
    | .ok m1 => foldM m1 r
def endM (m : MgV) : Except Int MgV := if m.old.data.toList = [] ∧ m.new.data.toList = [] then .error 8 else .ok m
def kHead : List UInt8 := [109, 97, 103, 110, 101, 116, 58, 63]
def restM (rest : List UInt8) : Except Int MgV := match foldM mg0 (if rest = [] then [] else pieces [] 38 rest) with
  | .error k => .error k
  | .ok m => endM m
def magP (s : List UInt8) : Except Int MgV := if 65536 < s.length then .error 3 else if kHead.isPrefixOf s = true then restM (s.drop 8) else .error 2
theorem foldM_app : ∀ (A B : List (List UInt8)) (m : MgV), foldM m (A ++ B) = match foldM m A with
    | .error k => .error k
    | .ok m1 => foldM m1 B
  | [], B, m => rfl
  | p :: A, B, m => by
    show (match pieceM m p with | .error k => (.error k : Except Int MgV) | .ok m1 => foldM m1 (A ++ B)) = _
    simp only [foldM]
    cases pieceM m p with
    | error k => rfl
    | ok m1 => exact foldM_app A B m1
theorem foldM_next {A : List (List UInt8)} {m m1 m2 : MgV} {p : List UInt8} (h : foldM m A = .ok m1) (hp : pieceM m1 p = .ok m2) : foldM m (A ++ [p]) = .ok m2 := by
  rw [foldM_app, h]
  simp only [foldM]
  rw [hp]
theorem foldM_bad {A B : List (List UInt8)} {m m1 : MgV} {p : List UInt8} {k : Int} (h : foldM m A = .ok m1) (hp : pieceM m1 p = .error k) : foldM m (A ++ p :: B) = .error k := by
  rw [foldM_app, h]
  simp only [foldM]
  rw [hp]
theorem tO_map (r : RdM) (m : MgV) (s : ByteArray) (ho : r.old = m.old) (hn : r.new = m.new) : tO r s = match tO (rdZero m) s with
    | .ok q => .ok { r with old := q.old, new := q.new }
    | .error k => .error k := by
  unfold tO rdZero
  simp only [ho]
  split
  · split
    · rfl
    · split
      · rfl
      · split
        · rfl
        · simp only [hn]
  · simp only [← ho, ← hn]
theorem tO_rest {r r' : RdM} {s : ByteArray} (h : tO r s = .ok r') : r'.name = r.name ∧ r'.tr = r.tr ∧ r'.pe = r.pe ∧ r'.ws = r.ws ∧ r'.on = r.on ∧ r'.named = r.named ∧ r'.only = r.only ∧ r'.new = r.new := by
  unfold tO at h
  split at h
  · split at h
    · cases h
    · split at h
      · cases h
      · split at h
        · cases h
        · injection h with h
          subst h
          exact ⟨rfl, rfl, rfl, rfl, rfl, rfl, rfl, rfl⟩
  · injection h with h
    subst h
    exact ⟨rfl, rfl, rfl, rfl, rfl, rfl, rfl, rfl⟩
theorem tN_rest {r r' : RdM} {s : ByteArray} (h : tN r s = .ok r') : r'.name = r.name ∧ r'.tr = r.tr ∧ r'.pe = r.pe ∧ r'.ws = r.ws ∧ r'.on = r.on ∧ r'.named = r.named ∧ r'.only = r.only ∧ r'.old = r.old := by
  unfold tN at h
  split at h
  · split at h
    · cases h
    · split at h
      · cases h
      · split at h
        · cases h
        · injection h with h
          subst h
          exact ⟨rfl, rfl, rfl, rfl, rfl, rfl, rfl, rfl⟩
  · injection h with h
    subst h
    exact ⟨rfl, rfl, rfl, rfl, rfl, rfl, rfl, rfl⟩
theorem tN_map (r q : RdM) (s : ByteArray) (hn : r.new = q.new) : tN r s = match tN q s with
    | .ok q' => .ok { r with new := q'.new }
    | .error k => .error k := by
  unfold tN
  simp only [hn]
  split
  · split
    · rfl
    · split
      · rfl
      · split <;> rfl
  · simp only [← hn]
/-- The topic, whatever else the reader holds. -/
theorem topM_yes {m m' : MgV} {r : RdM} {s : ByteArray} (ho : r.old = m.old) (hn : r.new = m.new) (h : topM m s = .ok m') : topicR r s = .ok { r with old := m'.old, new := m'.new } ∧ m' = { m with old := m'.old, new := m'.new } := by
  unfold topM topicR at h
  unfold topicR
  rw [tO_map r m s ho hn]
  cases h1 : tO (rdZero m) s with
  | error k => rw [h1] at h; cases h
  | ok q =>
    rw [h1] at h
    simp only at h ⊢
    have e := tN_map { r with old := q.old, new := q.new } q s rfl
    rw [e]
    cases h2 : tN q s with
    | error k => rw [h2] at h; cases h
    | ok q' =>
      rw [h2] at h
      injection h with h
      subst h
      have := (tN_rest h2).2.2.2.2.2.2.2
      simp [this]
theorem topM_no {m : MgV} {r : RdM} {s : ByteArray} {k : Int} (ho : r.old = m.old) (hn : r.new = m.new) (h : topM m s = .error k) : topicR r s = .error k := by
  unfold topM topicR at h
  unfold topicR
  rw [tO_map r m s ho hn]
  cases h1 : tO (rdZero m) s with
  | error k' => rw [h1] at h; simp only at h ⊢; injection h with h; rw [h]
  | ok q =>
    rw [h1] at h
    simp only at h ⊢
    have e := tN_map { r with old := q.old, new := q.new } q s rfl
    rw [e]
    cases h2 : tN q s with
    | error k' => rw [h2] at h; injection h with h; rw [h]
    | ok q' => rw [h2] at h; cases h
theorem nameM_yes {m m' : MgV} {r : RdM} {s : List UInt8} (hd : r.named = m.named) (h : nameM m s = .ok m') : dnR r s = .ok { r with name := m'.name, named := true } ∧ m' = { m with name := m'.name, named := true } := by
  unfold nameM at h
  unfold dnR
  cases hl : loose s with
  | none => rw [hl] at h; cases h
  | some x =>
    rw [hl] at h
    simp only at h ⊢
    split at h
    · cases h
    · next c =>
      split at h
      · cases h
      · next c2 =>
        injection h with h
        subst h
        rw [if_neg c, if_neg (by rw [hd]; exact c2)]
        exact ⟨rfl, rfl⟩
theorem nameM_no {m : MgV} {r : RdM} {s : List UInt8} {k : Int} (hd : r.named = m.named) (h : nameM m s = .error k) : dnR r s = .error k := by
  unfold nameM at h
  unfold dnR
  cases hl : loose s with
  | none => rw [hl] at h; injection h with h; rw [h]
  | some x =>
    rw [hl] at h
    simp only at h ⊢
    split at h
    · next c => rw [if_pos c]; injection h with h; rw [h]
    · next c =>
      split at h
      · next c2 => rw [if_neg c, if_pos (by rw [hd]; exact c2)]; injection h with h; rw [h]
      · cases h
end Go.Proofs.YtbgmkplpolgebaaGreatDoor

namespace Go.Proofs.YtbgmkplpolgebaaGreatDoor
set_option linter.unusedSimpArgs false
set_option linter.unusedVariables false
open Go.RowKit

theorem and_one (b : UInt8) {j : Nat} (hj : j < 8) : (bits .and .u8 ((b.toNat : Int) / 2 ^ (7 - j)) 1 == 1) = bitB b j := by
  have key : ∀ n : Nat, n < 256 → ∀ j : Nat, j < 8 → (bits .and .u8 ((n : Int) / 2 ^ (7 - j)) 1 == 1) = decide (n / 2 ^ (7 - j) % 2 = 1) := by decide +kernel
  exact key b.toNat b.toNat_lt j hj
set_option maxHeartbeats 1000000 in
theorem bhas_any (n : Int) (g c : Nat) (s : List UInt8) (i : Nat) (w : World) (h : ByAt w g s) (hi : i / 8 < s.length) (hl : s.length ≤ 70000) :
    Calls Tryz.prog 176 #[.agg #[.int .i64 n, .slice (some ⟨g, 0, none⟩) s.length c], .int .i64 i] w fun e w' => e = .returned (.bool (bitL s i)) ∧ New w w' := by
  have hc := h.cell hi
  have hlt := h.lt
  obtain ⟨b, hb⟩ : ∃ b, b = s[i / 8] := ⟨_, rfl⟩
  have HB := hid (show bitL s i = bitB b (i % 8) by unfold bitL; rw [hb, List.getD_eq_getElem?_getD, List.getElem?_eq_getElem hi]; rfl)
  rw [← hb] at hc
  have hq : ((i : Int)).tdiv 8 = ((i / 8 : Nat) : Int) := by rw [Int.tdiv_eq_ediv_of_nonneg (by omega)]; omega
  have hq2 : (i : Int) / 8 = ((i / 8 : Nat) : Int) := by omega
  have hr : ((i : Int)).tmod 8 = ((i % 8 : Nat) : Int) := by rw [Int.tmod_eq_emod_of_nonneg (by omega)]; omega
  have hr2 : (i : Int) % 8 = ((i % 8 : Nat) : Int) := by omega
  have ho := and_one b (j := i % 8) (by omega)
  obtain ⟨K, hK⟩ : ∃ K, K = i / 8 := ⟨_, rfl⟩
  obtain ⟨J, hJ⟩ : ∃ J, J = i % 8 := ⟨_, rfl⟩
  rw [← hK] at hc hq hq2
  rw [← hJ] at hr hr2 ho HB
  have hJ8 : J < 8 := by omega
  have hw : IntKind.i64.wrap (7 - (J : Int)) = 7 - (J : Int) := by rw [IntKind.wrap_i64]; omega
  have hn : ((7 : Int) - (J : Int)).toNat = 7 - J := by omega
  have hKl : K < s.length := by omega
  clear h hb hK hJ
  go_enter Tryz.func176, Tryz.ntmps176
  go_wp2
  go_ret
  exact ⟨ret_bool HB.out.symm, (Mod.refl _ _).alloc _⟩
theorem or_mask (b : UInt8) {j : Nat} (hj : j < 8) : bits .or .u8 (b.toNat : Int) (128 / 2 ^ j) = ((setB b j true).toNat : Int) := by
  have key : ∀ n : Nat, n < 256 → ∀ j : Nat, j < 8 → bits .or .u8 (n : Int) (128 / 2 ^ j) = ((setB (UInt8.ofNat n) j true).toNat : Int) := by decide +kernel
  have := key b.toNat b.toNat_lt j hj
  rwa [UInt8.ofNat_toNat] at this
theorem not_mask (b : UInt8) {j : Nat} (hj : j < 8) : bits .andNot .u8 (b.toNat : Int) (128 / 2 ^ j) = ((setB b j false).toNat : Int) := by
  have key : ∀ n : Nat, n < 256 → ∀ j : Nat, j < 8 → bits .andNot .u8 (n : Int) (128 / 2 ^ j) = ((setB (UInt8.ofNat n) j false).toNat : Int) := by decide +kernel
  have := key b.toNat b.toNat_lt j hj
  rwa [UInt8.ofNat_toNat] at this
set_option maxHeartbeats 1000000 in
theorem bset_any (n : Int) (g c : Nat) (s : List UInt8) (i : Nat) (v : Bool) (w : World) (h : ByAt w g s) (hi : i / 8 < s.length) (hl : s.length ≤ 70000) :
    Calls Tryz.prog 101 #[.agg #[.int .i64 n, .slice (some ⟨g, 0, none⟩) s.length c], .int .i64 i, .bool v] w fun e w' => e = .returned (.tuple #[]) ∧ ByAt w' g (setL s i v) ∧ Mod (fun k => k = g) w w' := by
  have hc := h.cell hi
  have hlt := h.lt
  have hfz := h.frz hi
  obtain ⟨b, hb⟩ : ∃ b, b = s[i / 8] := ⟨_, rfl⟩
  have HS := hid (show ∀ v, s.set (i / 8) (setB b (i % 8) v) = setL s i v from fun v => by unfold setL; rw [hb, List.getD_eq_getElem?_getD, List.getElem?_eq_getElem hi]; rfl)
  rw [← hb] at hc
  have hq : ((i : Int)).tdiv 8 = ((i / 8 : Nat) : Int) := by rw [Int.tdiv_eq_ediv_of_nonneg (by omega)]; omega
  have hq2 : (i : Int) / 8 = ((i / 8 : Nat) : Int) := by omega
  have hr : ((i : Int)).tmod 8 = ((i % 8 : Nat) : Int) := by rw [Int.tmod_eq_emod_of_nonneg (by omega)]; omega
  have hr2 : (i : Int) % 8 = ((i % 8 : Nat) : Int) := by omega
  have ho := or_mask b (j := i % 8) (by omega)
  have hn := not_mask b (j := i % 8) (by omega)
  have HB := hid h
  obtain ⟨K, hK⟩ : ∃ K, K = i / 8 := ⟨_, rfl⟩
  obtain ⟨J, hJ⟩ : ∃ J, J = i % 8 := ⟨_, rfl⟩
  rw [← hK] at hc hq hq2 hfz HS
  rw [← hJ] at hr hr2 ho hn HS
  have hJ8 : J < 8 := by omega
  have hKl : K < s.length := by omega
  have HKL := hid hKl
  clear h hb hK hJ
  cases v with
  | true =>
    go_enter Tryz.func101, Tryz.ntmps101
    go_wp2
    go_end0
    exact ⟨rfl, by rw [← HS.out]; exact (HB.out.set HKL.out _).new ((Mod.refl _ _).alloc _), (Mod.set (S := fun k => k = g) (Mod.refl _ _) ⟨g, K, none⟩ _ (.inl rfl)).alloc _⟩
  | false =>
    go_enter Tryz.func101, Tryz.ntmps101
    go_wp2
    go_end0
    exact ⟨rfl, by rw [← HS.out]; exact (HB.out.set HKL.out _).new ((Mod.refl _ _).alloc _), (Mod.set (S := fun k => k = g) (Mod.refl _ _) ⟨g, K, none⟩ _ (.inl rfl)).alloc _⟩
end Go.Proofs.YtbgmkplpolgebaaGreatDoor

namespace Go.Proofs.YtbgmkplpolgebaaGreatDoor
set_option linter.unusedSimpArgs false
set_option linter.unusedVariables false
open Go.RowKit

set_option maxRecDepth 100000 in
set_option maxHeartbeats 1000000 in
theorem bwrong_ok (n : Nat) (s : ByteArray) (w : World) (h : FieldOf n s.data.toList) (hn : n ≤ 4096) :
    Calls Tryz.prog 147 #[.int .i64 n, .string s] w fun e w' => e = .returned (.tuple #[.int .i64 (-1), .int .i64 0]) ∧ New w w' := by
  have hlen : s.data.toList.length = s.size := by rw [Array.length_toList]; rfl
  have hl := h.len
  rw [hlen] at hl
  have hq : ((n : Int) + 7).tdiv 8 = ((s.size : Nat) : Int) := by rw [Int.tdiv_eq_ediv_of_nonneg (by omega)]; omega
  have hq2 : ((n : Int) + 7) / 8 = ((s.size : Nat) : Int) := by omega
  have hw1 : IntKind.i64.wrap ((n : Int) + 7) = (n : Int) + 7 := by rw [IntKind.wrap_i64]; omega
  have hw2 : IntKind.i64.wrap (8 * (s.size : Int)) = 8 * (s.size : Int) := by rw [IntKind.wrap_i64]; omega
  have hcv := fun w => bytes_of w s
  obtain ⟨cap, hcap⟩ : ∃ cap, cap = grownCap w s.size 0 5 := ⟨_, rfl⟩
  have HBY := hid (bytes_lie w s rfl)
  have HBN := hid (bytes_new w s)
  have hcw := hcv w
  rw [← hcap] at hcw
  obtain ⟨W, hW⟩ : ∃ W, W = afterBytes w s := ⟨_, rfl⟩
  rw [← hW] at hcw HBY HBN
  have hWs : W.heap.size = w.heap.size + 1 := by rw [hW]; simp
  have HR := hid h.rest
  have HH := hid (fun (i : Nat) (W' : World) (q : New W W') (hi : i < 8 * s.size) => bhas_any n w.heap.size cap s.data.toList i W' (HBY.out.new q) (by rw [hlen]; omega) (by rw [hlen]; omega))
  rw [hlen] at HH
  have hs5 : s.size ≤ 600 := by omega
  have hns : n ≤ 8 * s.size := by omega
  clear hcv hW hl h hcap
  go_enter Tryz.func147, Tryz.ntmps147
  go_wp2
  have KB := hid (Blk.new W #[.int .i64 n, .slice (some ⟨w.heap.size, 0, none⟩) s.size cap] 120)
  go_loopw [8] (fun x wr => ∃ k : Nat, x = .int .i64 k ∧ n ≤ k ∧ k ≤ 8 * s.size ∧ New (W.alloc (.cells #[.int .i64 n, .slice (some ⟨w.heap.size, 0, none⟩) s.size cap] 120)) wr) (fun x _ => 8 * s.size - (intOf x).toNat)
  case atStart => exact ⟨n, rfl, Nat.le_refl _, hns, Mod.refl _ _⟩
  case round =>
    obtain ⟨k, rfl, hk0, hk, hn'⟩ := hrel
    have HN := hid hn'
    by_cases hlt : k < 8 * s.size
    · have hltI : (k : Int) < 8 * (s.size : Int) := by omega
      have kb : Blk wr (w.heap.size + 1) #[.int .i64 n, .slice (some ⟨w.heap.size, 0, none⟩) s.size cap] 120 := by rw [← hWs]; exact New.blk hn' KB.out
      have c0 := kb.cellv 0 rfl; have c1 := kb.cellv 1 rfl; have cl := kb.lt
      have hx := HH.out k wr (((Mod.refl _ _).alloc _).trans hn') hlt
      rw [HR.out k hk0] at hx
      have HX := hid hx
      clear hx kb hn'
      go_wp2_with fail
      refine HX.out.mono ?_
      rintro e w2 ⟨rfl, n2⟩
      have N2 := hid (HN.out.trans n2)
      clear n2
      go_wp2
      exact ⟨⟨k + 1, by simp, by omega, by omega, N2.out⟩, by simp [intOf]; omega⟩
    · have hltI : ¬ (k : Int) < 8 * (s.size : Int) := by omega
      clear hn'
      go_wp2
      go_ret2
      exact ⟨rfl, HBN.out.trans (((Mod.refl _ _).alloc _).trans HN.out)⟩
set_option maxHeartbeats 1000000 in
theorem bwrong_size (n : Nat) (s : ByteArray) (w : World) (h : s.size ≠ (n + 7) / 8) (hn : n ≤ 4096) (hs : s.size ≤ maxLen) :
    Calls Tryz.prog 147 #[.int .i64 n, .string s] w fun e w' => (∃ x, e = .returned (.tuple #[.int .i64 x, .int .i64 11])) ∧ New w w' := by
  unfold maxLen at hs
  have hq : ((n : Int) + 7).tdiv 8 = (((n + 7) / 8 : Nat) : Int) := by rw [Int.tdiv_eq_ediv_of_nonneg (by omega)]; omega
  have hq2 : ((n : Int) + 7) / 8 = (((n + 7) / 8 : Nat) : Int) := by omega
  have hw1 : IntKind.i64.wrap ((n : Int) + 7) = (n : Int) + 7 := by rw [IntKind.wrap_i64]; omega
  obtain ⟨K, hK⟩ : ∃ K, K = (n + 7) / 8 := ⟨_, rfl⟩
  rw [← hK] at hq hq2 h
  have hb : ((s.size : Int) != (K : Int)) = true := by rw [bne_iff_ne]; omega
  clear hK
  go_enter Tryz.func147, Tryz.ntmps147
  go_wp2
  all_goals
    go_ret2
    exact ⟨⟨_, rfl⟩, Mod.refl _ _⟩
/-- What a call stops with. -/
def toldB (k : Int) : List PanicEntry := [{ v := .iface 172 (.int .i64 k), recovered := false }]
theorem bfail_raise (k : Int) (w : World) : Calls Tryz.prog 100 #[.bool true, .int .i64 k] w fun e w' => e = .panicked (toldB k) ∧ w = w' := by
  go_enter Tryz.func100, Tryz.ntmps100
  go_wp2
  exact ⟨rfl, rfl, rfl⟩
theorem bfail_pass (k : Int) (w : World) : Calls Tryz.prog 100 #[.bool false, .int .i64 k] w fun e w' => e = .returned (.tuple #[]) ∧ w = w' := by
  go_enter Tryz.func100, Tryz.ntmps100
  go_wp2
  go_end0
  exact ⟨rfl, rfl⟩
theorem bcaught_idle (p : Addr) (w : World) :
    CallsD Tryz.prog 98 #[.pointer (some p)] .returning w fun e u' w' => e = .returned (.tuple #[]) ∧ u' = .returning ∧ w' = w := by
  refine callsD_of_wpS Tryz.func98 rfl fun c₀ cs hu => ?_
  apply wpS_seq
  apply wpS_region
  simp [wpOpsS, go_sem, recoverD, hu, Tryz.ntmps98, Exit.thenS]
  apply wpS_seq
  refine wpS_of_wp ?_
  go_wp2
  refine wpS_cond (t := false) (by simp [Act.eval, Array.replicate]) ?_
  simp only [Bool.false_eq_true, if_false]
  refine wpS_of_wp (wp_skip ?_)
  cases c₀
  simp_all [bodyPostS, results, Tryz.results98]
set_option maxRecDepth 100000 in
set_option maxHeartbeats 1000000 in
theorem bcaught_told (q : Nat) (k : Int) (w : World) (hq : Blk w q #[.int .i64 0] 28) :
    CallsD Tryz.prog 98 #[.pointer (some ⟨q, 0, none⟩)] (.panicking (toldB k)) w fun e u' w' =>
      e = .returned (.tuple #[]) ∧ u' = .panicking [{ v := .iface 172 (.int .i64 k), recovered := true }] ∧ Blk w' q #[.int .i64 k] 28 ∧ Mod (fun j => j = q) w w' := by
  obtain ⟨q1, q2, q3⟩ := hq.one
  have HQ := hid hq
  clear hq
  unfold toldB
  have hta : ∀ (x : Int) (w : World), (Instr.typeAssert (.iface 172 (.int .i64 x)) 20 172 true).run Tryz.prog w = .ok (.tuple #[.int .i64 x, .bool true]) w := fun _ _ => by simp [Instr.typeAssert, run_underlying Tryz.underlying172, Result.andThen]
  refine callsD_of_wpS Tryz.func98 rfl fun c₀ cs hu => ?_
  apply wpS_seq
  apply wpS_region
  simp [wpOpsS, go_sem, recoverD, hu, Tryz.ntmps98, Exit.thenS, show Array.replicate 18 undef = #[undef, undef, undef, undef, undef, undef, undef, undef, undef, undef, undef, undef, undef, undef, undef, undef, undef, undef] from rfl]
  apply wpS_seq
  refine wpS_of_wp ?_
  go_wp2
  refine wpS_cond (t := true) (by simp [Act.eval, Array.replicate]) ?_
  simp only [if_true]
  refine wpS_of_wp ?_
  go_wp2
  refine ⟨rfl, .panicking [{ v := .iface 172 (.int .i64 k), recovered := true }], ?_, .tuple #[], by simp [results, Tryz.results98], rfl, rfl, ?_, ?_⟩
  · first | rfl | (simp; done) | (cases c₀; simp_all)
  · apply Blk.row
    · repeat (first | with_reducible exact HQ.out | (with_reducible apply Blk.newAt; (simp; done)) | with_reducible apply Blk.alloc | with_reducible apply Blk.drew | with_reducible apply Blk.drewN | with_reducible apply Blk.set | (with_reducible apply Blk.other; · first | (simp; done) | (simp; omega) | omega) | (with_reducible apply Blk.putObj; · first | (simp; done) | (simp; omega) | omega))
    · rfl
  · repeat (first | with_reducible exact Mod.refl _ _ | with_reducible refine Mod.alloc ?_ _ | with_reducible refine Mod.drew ?_ | with_reducible refine Mod.drewN ?_ _ | (with_reducible refine Mod.set ?_ _ _ (by first | exact .inl rfl | (right; omega) | (right; simp; done) | (right; simp; omega) | (left; omega) | (left; simp; done) | (left; simp; omega))) | (with_reducible refine Mod.putObj ?_ _ _ (by first | exact .inl rfl | (right; omega) | (right; simp; done) | (right; simp; omega) | (left; omega) | (left; simp; done) | (left; simp; omega))))
end Go.Proofs.YtbgmkplpolgebaaGreatDoor

namespace Go.Proofs.YtbgmkplpolgebaaGreatDoor
set_option linter.unusedSimpArgs false
set_option linter.unusedVariables false
open Go.RowKit

theorem info_field : (Tryz.prog.info? 120).map (fun i => (i.zero, i.size, i.bytes)) = some (some (.agg #[.int .i64 0, .slice none 0 0]), 2, 32) := by kernel_rfl
theorem two_new (w : World) (x y : Value) (t : TypeId) {b : Nat} (hb : b = w.heap.size) : ∀ (j : Nat) (u : Value), [x, y][j]? = some u → (w.alloc (.cells #[x, y] t)).cell? ((⟨b, 0, none⟩ : Addr).add j) = some u := by
  intro j u hj
  have hadd : ∀ k, (⟨b, 0, none⟩ : Addr).add k = ⟨b, 0 + k, none⟩ := fun k => by unfold Addr.add; split <;> simp_all
  rw [hadd]
  have hB := Blk.newAt (cs := #[x, y]) (t := t) hb
  match j, hj with
  | 0, hj => simp at hj; subst hj; exact hB.cellv 0 rfl
  | 1, hj => simp at hj; subst hj; exact hB.cellv 1 rfl
/-- What open answers for one field: its list, and its bytes. -/
def Opened (w : World) (base : Nat) (v : Value) (n : Nat) (s : ByteArray) : Prop :=
  ∃ (G cap B cb : Nat), v = .slice (some ⟨G, 0, none⟩) 1 cap ∧ 1 ≤ cap ∧ cap ≤ maxLen ∧ G < w.heap.size ∧ w.cell? ⟨G, 0, none⟩ = some (.int .i64 n) ∧ w.cell? ⟨G, 1, none⟩ = some (.slice (some ⟨B, 0, none⟩) s.size cb) ∧ ByAt w B s.data.toList ∧ base ≤ B
theorem Opened.new {w w' : World} {base : Nat} {v : Value} {n : Nat} {s : ByteArray} (h : Opened w base v n s) (hn : New w w') : Opened w' base v n s := by
  obtain ⟨G, cap, B, cb, h1, h2, h3, h4, h5, h6, h7, h8⟩ := h
  exact ⟨G, cap, B, cb, h1, h2, h3, Nat.lt_of_lt_of_le h4 hn.size, New.cellv hn h5, New.cellv hn h6, h7.new hn, h8⟩
set_option maxRecDepth 100000 in
set_option maxHeartbeats 2000000 in
theorem bopen_one (n : Nat) (s : ByteArray) (a c : Nat) (w : World) (h : FieldOf n s.data.toList) (hn : n ≤ 4096) (ha : w.cell? ⟨a, 0, none⟩ = some (.string s)) (hc : 1 ≤ c) (hc2 : c ≤ maxLen) :
    Calls Tryz.prog 103 #[.int .i64 n, .slice (some ⟨a, 0, none⟩) 1 c] w fun e w' => ∃ v, e = .returned v ∧ Opened w' w.heap.size v n s ∧ New w w' := by
  unfold maxLen at hc2
  have HW := hid (fun W => bwrong_ok n s W h hn)
  have hlen : s.data.toList.length = s.size := by rw [Array.length_toList]; rfl
  have hl := h.len
  rw [hlen] at hl
  have hss : s.size ≤ 600 := by omega
  have hal := World.block_lt_of_cell? _ _ ha
  have HA := hid ha
  obtain ⟨i0, hi, hz0, hz1, hz2⟩ := info_parts info_field
  have hd1 : decide ((n : Int) < 0) = false := decide_eq_false (by omega)
  have hd2 : decide (4096 < (n : Int)) = false := decide_eq_false (by omega)
  clear h hlen hl ha
  go_enter Tryz.func103, Tryz.ntmps103
  go_wp2_with (first | (go_at_call 100; refine (bfail_pass _ _).mono ?_; rintro e w1 ⟨rfl, rfl⟩) | fail)
  go_loopw [5, 19] (fun v i wr => ∃ k : Nat, i = .int .i64 k ∧ ((k = 0 ∧ v = .slice none 0 0 ∧ New w wr) ∨ (k = 1 ∧ Opened wr w.heap.size v n s ∧ New w wr))) (fun _ i _ => 1 - (intOf i).toNat)
  case atStart => exact ⟨0, rfl, .inl ⟨rfl, rfl, Mod.refl _ _⟩⟩
  case round =>
    obtain ⟨k, rfl, ⟨rfl, rfl, hn'⟩ | ⟨rfl, ho, hn'⟩⟩ := hrel
    · have HN := hid hn'
      have ca := New.cellv hn' HA.out
      have cl : a < wr.heap.size := World.block_lt_of_cell? _ _ ca
      clear hn'
      go_wp2_with fail
      refine (HW.out _).mono ?_
      rintro e w1 ⟨rfl, n1⟩
      have N1 := hid (HN.out.trans n1)
      clear n1
      have hcv := bytes_of w1 s
      obtain ⟨cap, hcap⟩ : ∃ cap, cap = grownCap w1 s.size 0 5 := ⟨_, rfl⟩
      rw [← hcap] at hcv
      have HBY := hid (bytes_lie w1 s rfl)
      have HBN := hid (N1.out.trans (bytes_new w1 s))
      obtain ⟨W, hW⟩ : ∃ W, W = afterBytes w1 s := ⟨_, rfl⟩
      rw [← hW] at hcv HBY HBN
      have hWs : W.heap.size = w1.heap.size + 1 := by rw [hW]; simp
      clear hW hcap
      go_wp2_with (first | (go_at_call 100; refine (bfail_pass _ _).mono ?_; rintro e w1 ⟨rfl, rfl⟩) | (at_builtin; refine wpList_append_own_at _ rfl _ _ 126 rfl w.heap.size 120 i0 _ 2 32 Tryz.underlying126 hi hz0 hz1 hz2 rfl (by decide) (.slice none 0 0) 0 [] rfl ?ow ⟨w1.heap.size + 1, 0, none⟩ 1 1 [.int .i64 n, .slice (some ⟨w1.heap.size, 0, none⟩) s.size cap] rfl rfl ?hn ?h1 ?h63 ?hby ?hba ?_) | fail)
      case ow => exact World.ownsRow_nil _ _ _ _
      case hn => exact two_new W _ _ _ hWs.symm
      case h1 => intro u hu; simp at hu; rcases hu with rfl | rfl <;> rfl
      case h63 => unfold maxLen; omega
      case hby => omega
      case hba => have := HBN.out.size; simp; omega
      intro o4 w4 r4 g4 hne _
      have HN4 : Hid (New w w4) := hid (newGrown (HBN.out.alloc _) g4 (fun j hj => by cases hj))
      have HOP : Hid (Opened w4 w.heap.size o4 n s) := hid (by
        rcases r4.2 with ⟨q, -⟩ | ⟨G, cap', cur, rfl, hbg, hg, hnc, hcm, hcs, htake⟩
        · exact absurd q hne
        · have hb : Blk w4 G cur 120 := hg
          have hc' : ∀ (j : Nat) (u : Value), j < 2 → [Value.int .i64 n, Value.slice (some ⟨w1.heap.size, 0, none⟩) s.size cap][j]? = some u → w4.cell? ⟨G, j, none⟩ = some u := by
            intro j u hj hu
            have h1 := World.ownsRow.cells (g := G) r4 rfl j u hu
            have hadd : ∀ k, (⟨G, 0, none⟩ : Addr).add k = ⟨G, 0 + k, none⟩ := fun k => by unfold Addr.add; split <;> simp_all
            rw [hadd, Nat.zero_add] at h1
            exact h1
          refine ⟨G, cap', w1.heap.size, cap, rfl, hnc, hcm, hb.lt, hc' 0 _ (by omega) rfl, hc' 1 _ (by omega) rfl, ?_, N1.out.size⟩
          have hby := (HBY.out.new ((Mod.refl _ _).alloc (.cells #[.int .i64 n, .slice (some ⟨w1.heap.size, 0, none⟩) s.size cap] 120)))
          exact hby.of_heap (g4.block _ hby.lt (fun q => by cases q)))
      clear r4 g4
      go_wp2
      exact ⟨⟨1, by simp, .inr ⟨rfl, HOP.out, HN4.out⟩⟩, by simp [intOf]⟩
    · have HO := hid ho; have HN := hid hn'
      clear ho hn'
      go_wp2
      go_ret
      exact ⟨_, rfl, HO.out, HN.out⟩
end Go.Proofs.YtbgmkplpolgebaaGreatDoor
