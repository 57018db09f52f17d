/-
  Hexadecimal digits read two at a time: what has been read so far. Plain Lean, no program. No condition.
-/
import Derived.Test.YtecjdppkpfpniaaGreatDoorLtM
import Derived.Lib.Bytealg
namespace Go.Proofs.YtecjdppkpfpniaaGreatDoor
set_option linter.unusedSimpArgs false
set_option linter.unusedVariables false

def nibD (c : UInt8) : Nat := (nib c).getD 0
theorem nib_lt {c : UInt8} {n : Nat} (h : nib c = some n) : n < 16 := (low_nib h).2
theorem nibD_lt (c : UInt8) : nibD c < 16 := by
  unfold nibD
  cases h : nib c with
  | none => decide
  | some n => exact nib_lt h
def half : List UInt8 → List UInt8
  | [] => []
  | [a] => [UInt8.ofNat (16 * nibD a)]
  | a :: b :: r => UInt8.ofNat (16 * nibD a + nibD b) :: half r
theorem half_one : ∀ (p : List UInt8) (a : UInt8), p.length % 2 = 0 → half (p ++ [a]) = half p ++ [UInt8.ofNat (16 * nibD a)]
  | [], a, _ => rfl
  | [x], a, h => by simp at h
  | x :: y :: r, a, h => by
    have := half_one r a (by simp only [List.length_cons] at h; omega)
    simp only [List.cons_append, half, this]
theorem half_two : ∀ (p : List UInt8) (a b : UInt8), p.length % 2 = 0 → half (p ++ [a, b]) = half p ++ [UInt8.ofNat (16 * nibD a + nibD b)]
  | [], a, b, _ => rfl
  | [x], a, b, h => by simp at h
  | x :: y :: r, a, b, h => by
    have := half_two r a b (by simp only [List.length_cons] at h; omega)
    simp only [List.cons_append, half, this]
theorem half_len : ∀ l : List UInt8, (half l).length = (l.length + 1) / 2
  | [] => rfl
  | [a] => by simp [half]
  | a :: b :: r => by
    have := half_len r
    simp only [half, List.length_cons, this]
    omega
theorem unhex_half : ∀ l : List UInt8, l.length % 2 = 0 → (∀ c ∈ l, (nib c).isSome = true) → unhex l = some (half l)
  | [], _, _ => rfl
  | [a], h, _ => by simp at h
  | a :: b :: r, h, hn => by
    have := unhex_half r (by simp only [List.length_cons] at h; omega) (fun c hc => hn c (by simp [hc]))
    have ha := hn a (by simp)
    have hb := hn b (by simp)
    cases ea : nib a with
    | none => rw [ea] at ha; cases ha
    | some x =>
      cases eb : nib b with
      | none => rw [eb] at hb; cases hb
      | some y =>
        rw [unhex, ea, eb, this]
        simp only [half, nibD, ea, eb, Option.getD_some]
theorem unhex_bad : ∀ (l : List UInt8) (c : UInt8), c ∈ l → nib c = none → unhex l = none
  | [], c, h, _ => by simp at h
  | [a], c, h, _ => rfl
  | a :: b :: r, c, h, hn => by
    rw [unhex]
    simp only [List.mem_cons] at h
    rcases h with rfl | rfl | h
    · rw [hn]
    · rw [hn]; cases nib a <;> rfl
    · rw [unhex_bad r c h hn]
      cases nib a <;> cases nib b <;> rfl
theorem unhex_odd : ∀ l : List UInt8, l.length % 2 = 1 → unhex l = none
  | [], h => by simp at h
  | [a], _ => rfl
  | a :: b :: r, h => by
    rw [unhex, unhex_odd r (by simp only [List.length_cons] at h; omega)]
    cases nib a <;> cases nib b <;> rfl
def nibI (c : UInt8) : Int := match nib c with
  | some n => (n : Int)
  | none => -1
theorem nibI_some {c : UInt8} {n : Nat} (h : nib c = some n) : nibI c = (n : Int) := by unfold nibI; rw [h]
theorem nibI_none {c : UInt8} (h : nib c = none) : nibI c = -1 := by unfold nibI; rw [h]
theorem index_nib (c : UInt8) : Lib.indexByte hexLows c = nibI c := by
  have key : ∀ k : Nat, k < 256 → Lib.indexByte hexLows (UInt8.ofNat k) = nibI (UInt8.ofNat k) := by decide +kernel
  have := key c.toNat c.toNat_lt
  rwa [UInt8.ofNat_toNat] at this
def unhexE (l : List UInt8) : Int := if (unhex l).isSome then 0 else 2
def unhexB (l : List UInt8) : List UInt8 := (unhex l).getD []
theorem unhex_no {l : List UInt8} (h : unhex l = none) : unhexB l = [] ∧ unhexE l = 2 := by
  unfold unhexB unhexE
  rw [h]
  exact ⟨rfl, rfl⟩
theorem unhex_yes {l t : List UInt8} (h : unhex l = some t) : unhexB l = t ∧ unhexE l = 0 := by
  unfold unhexB unhexE
  rw [h]
  exact ⟨rfl, rfl⟩
theorem half_next0 {l : List UInt8} {k : Nat} (h : k < l.length) (he : k % 2 = 0) : half (l.take (k + 1)) = half (l.take k) ++ [UInt8.ofNat (16 * nibD l[k])] := by
  rw [List.take_add_one, List.getElem?_eq_getElem h]
  exact half_one _ _ (by rw [List.length_take]; omega)
/-- At an odd place: the byte written last, and the same with the lower half. -/
theorem half_next1 {l : List UInt8} {k : Nat} (h : k < l.length) (he : k % 2 = 1) : ∃ (p : List UInt8) (a : Nat), a < 16 ∧ p.length = k / 2 ∧ half (l.take k) = p ++ [UInt8.ofNat (16 * a)] ∧ half (l.take (k + 1)) = p ++ [UInt8.ofNat (16 * a + nibD l[k])] := by
  obtain ⟨j, rfl⟩ : ∃ j, k = j + 1 := ⟨k - 1, by omega⟩
  have e1 : l.take (j + 1) = l.take j ++ [l[j]] := by
    rw [List.take_add_one, List.getElem?_eq_getElem (by omega)]
    rfl
  have e2 : l.take (j + 1 + 1) = l.take j ++ [l[j], l[j + 1]] := by
    rw [List.take_add_one, List.getElem?_eq_getElem h, e1, List.append_assoc]
    rfl
  have hj : (l.take j).length % 2 = 0 := by rw [List.length_take]; omega
  refine ⟨half (l.take j), nibD l[j], nibD_lt _, by rw [half_len, List.length_take]; omega, by rw [e1]; exact half_one _ _ hj, by rw [e2]; exact half_two _ _ _ hj⟩
theorem or_low {a b : Nat} (ha : a < 16) (hb : b < 16) : bits .or .u8 ((UInt8.ofNat (16 * a)).toNat : Int) (b : Int) = ((UInt8.ofNat (16 * a + b)).toNat : Int) := by
  have key : ∀ a : Nat, a < 16 → ∀ b : Nat, b < 16 → bits .or .u8 ((UInt8.ofNat (16 * a)).toNat : Int) (b : Int) = ((UInt8.ofNat (16 * a + b)).toNat : Int) := by decide +kernel
  exact key a ha b hb
theorem mk_high {a : Nat} (ha : a < 16) : ((UInt8.ofNat (16 * a)).toNat : Int) = 16 * (a : Int) := by
  rw [UInt8.toNat_ofNat', Nat.mod_eq_of_lt (by omega)]
  omega
theorem mk_both {a b : Nat} (ha : a < 16) (hb : b < 16) : ((UInt8.ofNat (16 * a + b)).toNat : Int) = 16 * (a : Int) + b := by
  rw [UInt8.toNat_ofNat', Nat.mod_eq_of_lt (by omega)]
  omega
end Go.Proofs.YtecjdppkpfpniaaGreatDoor
