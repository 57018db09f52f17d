/-
  Several texts in one, in their build order. Texts of runs of bits told in plain words: numbers, parts, what is written and read; the two readings of a part are one. Plain Lean, no program. No condition. Addresses and their texts told in plain words: what is read is what is written. Plain Lean, no program. No condition. Addresses read, told twice (as package addr reads, and as the reference does): both read just what is written. Plain Lean, no program. No condition.
-/
import Derived.Test.YtbgmkplpolgebaaGreatDoorM9
namespace Go.Proofs.YtbgmkplpolgebaaGreatDoor
set_option linter.unusedSimpArgs false
set_option linter.unusedVariables false

/-- A number in its digits, without zeros ahead. -/
def natP (s : List UInt8) : Option Nat := if canon s = true ∧ s.all isDig = true then some (decVal s) else none
theorem natP_iff {s : List UInt8} {u : Nat} : natP s = some u ↔ Lib.decDigits u = s := by
  unfold natP
  constructor
  · intro h
    by_cases c : canon s = true ∧ s.all isDig = true
    · rw [if_pos c] at h
      injection h with h
      rw [← h]
      exact dec_back c.2 c.1
    · rw [if_neg c] at h
      cases h
  · intro h
    obtain ⟨h1, h2, h3, -, -⟩ := dec_read u
    rw [h] at h1 h2 h3
    rw [if_pos ⟨h3, h2⟩, h1]
def numP (s : List UInt8) : Option Int := match Lib.atoiAll s with
  | .ok n => if 0 ≤ n ∧ Lib.itoa n = s then some n else none
  | _ => none
theorem itoa_nat (u : Nat) : Lib.itoa (u : Int) = Lib.decDigits u := by
  unfold Lib.itoa
  rw [if_neg (by omega), Int.toNat_natCast]
theorem numP_eq (s : List UInt8) : numP s = match natP s with
    | some u => if u ≤ 9223372036854775807 then some (u : Int) else none
    | none => none := by
  cases hn : natP s with
  | some u =>
    have h := natP_iff.1 hn
    obtain ⟨h1, h2, h3, -, -⟩ := dec_read u
    rw [h] at h1 h2
    have hne : s ≠ [] := by rw [← h]; exact (dec_bytes u).2
    have ha := atoi_digits h2 hne
    rw [h1] at ha
    unfold numP
    rw [ha]
    by_cases hu : u ≤ 9223372036854775807
    · simp only [if_pos hu]
      rw [if_pos ⟨by omega, by rw [itoa_nat, h]⟩]
    · simp only [if_neg hu]
  | none =>
    unfold numP
    cases ha : Lib.atoiAll s with
    | ok n =>
      simp only
      rw [if_neg]
      rintro ⟨h0, h1⟩
      obtain ⟨u, rfl⟩ := Int.eq_ofNat_of_zero_le h0
      rw [itoa_nat] at h1
      rw [natP_iff.2 h1] at hn
      cases hn
    | _ => rfl
/-- A part of a text of runs. -/
def runP (a b : List UInt8) : Option (Int × Int) := match natP a, natP b with
  | some f, some t => if t < f ∨ 4096 < t then none else some ((f : Int), (t : Int) - f + 1)
  | _, _ => none
def partP (p : List UInt8) : Option (Int × Int) := runP (cutB 45 p).1 (if (cutB 45 p).2.2 = true then (cutB 45 p).2.1 else (cutB 45 p).1)
theorem cutB_free {c : UInt8} : ∀ (s : List UInt8), c ∉ s → cutB c s = (s, [], false)
  | [], _ => rfl
  | b :: l, h => by
    have hb : b ≠ c := fun e => h (by rw [e]; exact .head _)
    rw [cutB, if_neg hb, cutB_free l (fun q => h (.tail _ q))]
theorem cutB_app {c : UInt8} (b : List UInt8) : ∀ (a : List UInt8), c ∉ a → cutB c (a ++ c :: b) = (a, b, true)
  | [], _ => by simp [cutB]
  | x :: a, h => by
    have hx : x ≠ c := fun e => h (by rw [e]; exact .head _)
    rw [List.cons_append, cutB, if_neg hx, cutB_app b a (fun q => h (.tail _ q))]
def partsP : List (List UInt8) → Option (List (Int × Int))
  | [] => some []
  | p :: ps => match partP p with
    | none => none
    | some r => match partsP ps with
      | none => none
      | some R => some (r :: R)
theorem partsP_app : ∀ (A : List (List UInt8)) (RA : List (Int × Int)) (B : List (List UInt8)), partsP A = some RA → partsP (A ++ B) = (partsP B).map (RA ++ ·)
  | [], RA, B, h => by
    injection h with h
    subst h
    show partsP B = _
    cases partsP B <;> rfl
  | p :: A, RA, B, h => by
    simp only [partsP] at h
    show (match partP p with | none => none | some r => match partsP (A ++ B) with | none => none | some R => some (r :: R)) = _
    cases hp : partP p with
    | none => rw [hp] at h; cases h
    | some r =>
      rw [hp] at h
      cases ha : partsP A with
      | none => rw [ha] at h; cases h
      | some R =>
        rw [ha] at h
        injection h with h
        subst h
        simp only
        rw [partsP_app A R B ha]
        cases partsP B <;> rfl
theorem partsP_next {A : List (List UInt8)} {RA : List (Int × Int)} {p : List UInt8} {r : Int × Int} (h : partsP A = some RA) (hp : partP p = some r) : partsP (A ++ [p]) = some (RA ++ [r]) := by
  rw [partsP_app A RA [p] h]
  simp [partsP, hp]
theorem partsP_bad {A B : List (List UInt8)} {RA : List (Int × Int)} {p : List UInt8} (h : partsP A = some RA) (hp : partP p = none) : partsP (A ++ p :: B) = none := by
  rw [partsP_app A RA _ h]
  simp [partsP, hp]
/-- What is written for runs. -/
def pieceT (r : Int × Int) : List UInt8 := Lib.itoa r.1 ++ (if 1 < r.2 then 45 :: Lib.itoa (r.1 + r.2 - 1) else [])
def txtR (R : List (Int × Int)) : List UInt8 := Lib.join (R.map pieceT) [44]
/-- The field that a text tells. -/
def bitsP (n : Nat) (s : List UInt8) : Option (List UInt8) := match partsP (if s = [] then [] else pieces [] 44 s) with
  | none => none
  | some R => match frR n R with
    | .error _ => none
    | .ok f => if txtR (runsF n f) = s then some f else none
theorem bitsP_field {n : Nat} {s f : List UInt8} (h : bitsP n s = some f) : FieldOf n f := by
  unfold bitsP at h
  split at h
  · cases h
  · next R hR =>
    split at h
    · cases h
    · next g hg =>
      split at h
      · injection h with h
        subst h
        exact frR_field hg
      · cases h
end Go.Proofs.YtbgmkplpolgebaaGreatDoor

namespace Go.Proofs.YtbgmkplpolgebaaGreatDoor
set_option linter.unusedSimpArgs false
set_option linter.unusedVariables false

/-- An address. -/
structure AdrV where
  fam : Int
  ip : ByteArray
  port : Int
def adrOk (x : AdrV) : Bool := (decide (x.fam = 4) && decide (x.ip.size = 4) || decide (x.fam = 6) && decide (x.ip.size = 16)) && decide (1 ≤ x.port) && decide (x.port ≤ 65535)
theorem adrOk_iff {x : AdrV} : adrOk x = true ↔ (x.fam = 4 ∧ x.ip.size = 4 ∨ x.fam = 6 ∧ x.ip.size = 16) ∧ 1 ≤ x.port ∧ x.port ≤ 65535 := by
  unfold adrOk
  simp [and_assoc]

/-! ### digits of base 16 -/
def hexD (n : Nat) : UInt8 := UInt8.ofNat (if n < 10 then 48 + n else 87 + n)
def hexG (u : Nat) : List UInt8 := if h : u < 16 then [hexD u] else hexG (u / 16) ++ [hexD (u % 16)]
termination_by u
decreasing_by omega
theorem hexG_one {u : Nat} (h : u < 16) : hexG u = [hexD u] := by rw [hexG, dif_pos h]
theorem hexG_more {u : Nat} (h : ¬ u < 16) : hexG u = hexG (u / 16) ++ [hexD (u % 16)] := by rw [hexG, dif_neg h]
/-- The value of a digit of base 16, in either case. -/
def hexN (c : UInt8) : Option Nat :=
  if 48 ≤ c.toNat ∧ c.toNat ≤ 57 then some (c.toNat - 48) else if 97 ≤ c.toNat ∧ c.toNat ≤ 102 then some (c.toNat - 87) else if 65 ≤ c.toNat ∧ c.toNat ≤ 70 then some (c.toNat - 55) else none
theorem hexN_D {n : Nat} (h : n < 16) : hexN (hexD n) = some n := by
  have key : ∀ n : Nat, n < 16 → hexN (hexD n) = some n := by decide +kernel
  exact key n h
/-- The digit of a base, 10 or 16. -/
def digN (b : Nat) (c : UInt8) : Option Nat := if b = 16 then hexN c else if isDig c = true then some (c.toNat - 48) else none
/-- A number of a base, below 2 to the 31st. -/
def puA (b : Nat) (a : Nat) : List UInt8 → Option Nat
  | [] => some a
  | c :: r => match digN b c with
    | none => none
    | some d => if 2147483647 < a * b + d then none else puA b (a * b + d) r
def puP (b : Nat) (s : List UInt8) : Option Nat := if s = [] then none else puA b 0 s
def fmtU (b : Nat) (u : Nat) : List UInt8 := if b = 16 then hexG u else Lib.decDigits u
/-- A number of a base up to a greatest one, written as it is written. -/
def numA (b most : Nat) (s : List UInt8) : Option Nat := match puP b s with
  | some u => if u ≤ most ∧ fmtU b u = s then some u else none
  | none => none
theorem numA_some {b most : Nat} {s : List UInt8} {u : Nat} (h : numA b most s = some u) : u ≤ most ∧ fmtU b u = s := by
  unfold numA at h
  split at h
  · split at h
    · next c =>
      injection h with h
      subst h
      exact c
    · cases h
  · cases h
theorem puA_app (b : Nat) : ∀ (x y : List UInt8) (a v : Nat), puA b a x = some v → puA b a (x ++ y) = puA b v y
  | [], y, a, v, h => by
    injection h with h
    subst h
    rfl
  | c :: x, y, a, v, h => by
    simp only [puA] at h
    show (match digN b c with | none => none | some d => if 2147483647 < a * b + d then none else puA b (a * b + d) (x ++ y)) = _
    cases hd : digN b c with
    | none => rw [hd] at h; cases h
    | some d =>
      rw [hd] at h
      simp only at h ⊢
      by_cases q : 2147483647 < a * b + d
      · rw [if_pos q] at h; cases h
      · rw [if_neg q] at h ⊢
        exact puA_app b x y _ v h
theorem puA_hex (u : Nat) : u ≤ 2147483647 → puA 16 0 (hexG u) = some u := by
  induction u using Nat.strongRecOn with
  | ind u ih =>
    intro hu
    by_cases h : u < 16
    · rw [hexG_one h]
      have : digN 16 (hexD u) = some u := hexN_D h
      simp only [puA, this]
      rw [if_neg (by omega), Nat.zero_mul, Nat.zero_add]
    · rw [hexG_more h, puA_app 16 _ _ 0 _ (ih (u / 16) (by omega) (by omega))]
      have : digN 16 (hexD (u % 16)) = some (u % 16) := hexN_D (by omega)
      simp only [puA, this]
      rw [if_neg (by omega)]
      congr 1
      omega
theorem puA_dec (u : Nat) : u ≤ 2147483647 → puA 10 0 (Lib.decDigits u) = some u := by
  induction u using Nat.strongRecOn with
  | ind u ih =>
    intro hu
    by_cases h : u < 10
    · obtain ⟨i1, i2⟩ := isDig_mk h
      rw [Lib.decDigits_one h]
      have : digN 10 (UInt8.ofNat (48 + u)) = some u := by
        unfold digN
        rw [if_neg (by decide), if_pos i1, i2]
      simp only [puA, this]
      rw [if_neg (by omega), Nat.zero_mul, Nat.zero_add]
    · obtain ⟨i1, i2⟩ := isDig_mk (show u % 10 < 10 by omega)
      rw [Lib.decDigits, dif_neg h, puA_app 10 _ _ 0 _ (ih (u / 10) (by omega) (by omega))]
      have : digN 10 (UInt8.ofNat (48 + u % 10)) = some (u % 10) := by
        unfold digN
        rw [if_neg (by decide), if_pos i1, i2]
      simp only [puA, this]
      rw [if_neg (by omega)]
      congr 1
      omega
theorem hexG_ne (u : Nat) : hexG u ≠ [] := by
  by_cases h : u < 16
  · rw [hexG_one h]; simp
  · rw [hexG_more h]; simp
theorem numA_fmt {b most u : Nat} (hb : b = 10 ∨ b = 16) (h : u ≤ most) (hm : most ≤ 65535) : numA b most (fmtU b u) = some u := by
  have hp : puP b (fmtU b u) = some u := by
    unfold puP
    rcases hb with rfl | rfl
    · show (if Lib.decDigits u = [] then none else puA 10 0 (Lib.decDigits u)) = _
      rw [if_neg (dec_bytes u).2, puA_dec u (by omega)]
    · show (if hexG u = [] then none else puA 16 0 (hexG u)) = _
      rw [if_neg (hexG_ne u), puA_hex u (by omega)]
  unfold numA
  rw [hp]
  show (if u ≤ most ∧ fmtU b u = fmtU b u then some u else none) = some u
  rw [if_pos ⟨h, rfl⟩]
theorem hexD_bytes {n : Nat} (h : n < 16) : (48 ≤ (hexD n).toNat ∧ (hexD n).toNat ≤ 57) ∨ (97 ≤ (hexD n).toNat ∧ (hexD n).toNat ≤ 102) := by
  have key : ∀ n : Nat, n < 16 → (48 ≤ (hexD n).toNat ∧ (hexD n).toNat ≤ 57) ∨ (97 ≤ (hexD n).toNat ∧ (hexD n).toNat ≤ 102) := by decide +kernel
  exact key n h
theorem hexG_bytes (u : Nat) : ∀ c ∈ hexG u, (48 ≤ c.toNat ∧ c.toNat ≤ 57) ∨ (97 ≤ c.toNat ∧ c.toNat ≤ 102) := by
  induction u using Nat.strongRecOn with
  | ind u ih =>
    intro c hc
    by_cases h : u < 16
    · rw [hexG_one h] at hc
      simp only [List.mem_singleton] at hc
      subst hc
      exact hexD_bytes h
    · rw [hexG_more h] at hc
      rcases List.mem_append.1 hc with q | q
      · exact ih (u / 16) (by omega) c q
      · simp only [List.mem_singleton] at q
        subst q
        exact hexD_bytes (by omega)
theorem hexG_len (u : Nat) : u < 65536 → (hexG u).length ≤ 4 := by
  intro h
  by_cases h1 : u < 16
  · rw [hexG_one h1]; simp
  · rw [hexG_more h1]
    by_cases h2 : u / 16 < 16
    · rw [hexG_one h2]; simp
    · rw [hexG_more h2]
      by_cases h3 : u / 16 / 16 < 16
      · rw [hexG_one h3]; simp
      · rw [hexG_more h3, hexG_one (by omega)]; simp

/-! ### the text of an address -/
/-- Two bytes and two bytes as numbers. -/
def pairsN : List UInt8 → List Nat
  | a :: b :: r => (a.toNat * 256 + b.toNat) :: pairsN r
  | _ => []
def unpairs : List Nat → List UInt8
  | [] => []
  | n :: r => UInt8.ofNat (n / 256) :: UInt8.ofNat (n % 256) :: unpairs r
def bodyT (x : AdrV) : List UInt8 := if x.fam = 4 then Lib.join (x.ip.data.toList.map (fun b => Lib.decDigits b.toNat)) [46] else 91 :: (Lib.join ((pairsN x.ip.data.toList).map hexG) [58] ++ [93])
def atxt (x : AdrV) : List UInt8 := bodyT x ++ 58 :: Lib.decDigits x.port.toNat
theorem pairs_back : ∀ (N : List Nat), (∀ n ∈ N, n < 65536) → pairsN (unpairs N) = N
  | [], _ => rfl
  | n :: r, h => by
    have h0 := h n (by simp)
    show ((UInt8.ofNat (n / 256)).toNat * 256 + (UInt8.ofNat (n % 256)).toNat) :: pairsN (unpairs r) = _
    rw [pairs_back r (fun m hm => h m (by simp [hm])), UInt8.toNat_ofNat', UInt8.toNat_ofNat']
    congr 1
    omega
theorem pairs_forth : ∀ (k : Nat) (l : List UInt8), l.length = 2 * k → unpairs (pairsN l) = l ∧ (pairsN l).length = k ∧ ∀ n ∈ pairsN l, n < 65536
  | 0, l, h => by
    obtain rfl : l = [] := List.eq_nil_of_length_eq_zero (by omega)
    simp [pairsN, unpairs]
  | k + 1, [], h => by simp at h
  | k + 1, [a], h => by simp at h; omega
  | k + 1, a :: b :: r, h => by
    obtain ⟨h1, h2, h3⟩ := pairs_forth k r (by simp at h; omega)
    have ha := a.toNat_lt; have hb := b.toNat_lt
    refine ⟨?_, by show (pairsN r).length + 1 = _; omega, fun n hn => ?_⟩
    · show UInt8.ofNat ((a.toNat * 256 + b.toNat) / 256) :: UInt8.ofNat ((a.toNat * 256 + b.toNat) % 256) :: unpairs (pairsN r) = _
      rw [h1, show (a.toNat * 256 + b.toNat) / 256 = a.toNat by omega, show (a.toNat * 256 + b.toNat) % 256 = b.toNat by omega]
      simp
    · rcases List.mem_cons.1 hn with rfl | hn
      · omega
      · exact h3 n hn
theorem unpairs_len : ∀ (N : List Nat), (unpairs N).length = 2 * N.length
  | [] => rfl
  | n :: r => by
    show (unpairs r).length + 1 + 1 = _
    rw [unpairs_len r, List.length_cons]
    omega
theorem unpairs_app : ∀ (A B : List Nat), unpairs (A ++ B) = unpairs A ++ unpairs B
  | [], B => rfl
  | n :: r, B => by
    show _ :: _ :: unpairs (r ++ B) = _
    rw [unpairs_app r B]
    rfl
/-! ### cut and joined -/
theorem pieces_tailC {c : UInt8} : ∀ (r : List (List UInt8)) (x : List UInt8), c ∉ x → (∀ y ∈ r, c ∉ y) → pieces [] c (x ++ Lib.joinTail [c] r) = x :: r
  | [], x, hx, _ => by
    have e : x ++ Lib.joinTail [c] [] = x := by simp [Lib.joinTail]
    rw [e, pieces_free _ hx]
  | y :: r, x, hx, h => by
    have e : x ++ Lib.joinTail [c] (y :: r) = x ++ c :: (y ++ Lib.joinTail [c] r) := by simp [Lib.joinTail]
    rw [e, pieces_app _ _ hx, pieces_tailC r y (h y (by simp)) (fun z hz => h z (by simp [hz]))]
theorem pieces_joinC {c : UInt8} {p : List (List UInt8)} (hp : p ≠ []) (h : ∀ y ∈ p, c ∉ y) : pieces [] c (Lib.join p [c]) = p := by
  cases p with
  | nil => exact absurd rfl hp
  | cons x r =>
    rw [Lib.join_cons, pieces_tailC r x (h x (by simp)) (fun y hy => h y (by simp [hy]))]
theorem join_consC (c b : UInt8) (L : List (List UInt8)) (h : L ≠ []) : Lib.join (consHead b L) [c] = b :: Lib.join L [c] := by
  cases L with
  | nil => exact absurd rfl h
  | cons x r => rw [consHead, Lib.join_cons, Lib.join_cons]; rfl
theorem join_piecesC (c : UInt8) : ∀ (s : List UInt8), Lib.join (pieces [] c s) [c] = s
  | [] => by rw [pieces, Lib.join_one]
  | b :: l => by
    rw [pieces]
    have ih := join_piecesC c l
    have hne := pieces_ne [] c l
    split
    · next e =>
      subst e
      cases hp : pieces [] b l with
      | nil => exact absurd hp hne
      | cons x r =>
        rw [hp, Lib.join_cons] at ih
        rw [Lib.join_cons, ← ih]
        simp [Lib.joinTail]
    · rw [join_consC _ _ _ hne, ih]
theorem mem_joinC {b c : UInt8} {p : List (List UInt8)} (h : b ∈ Lib.join p [c]) : b = c ∨ ∃ x ∈ p, b ∈ x := by
  have key : ∀ (r : List (List UInt8)) (x : List UInt8), b ∈ x ++ Lib.joinTail [c] r → b = c ∨ ∃ y ∈ x :: r, b ∈ y := by
    intro r
    induction r with
    | nil =>
      intro x hx
      simp [Lib.joinTail] at hx
      exact .inr ⟨x, by simp, hx⟩
    | cons y r ih =>
      intro x hx
      have e : x ++ Lib.joinTail [c] (y :: r) = x ++ c :: (y ++ Lib.joinTail [c] r) := by simp [Lib.joinTail]
      rw [e] at hx
      rcases List.mem_append.1 hx with q | q
      · exact .inr ⟨x, by simp, q⟩
      · rcases List.mem_cons.1 q with q | q
        · exact .inl q
        · rcases ih y q with q | ⟨z, hz, q⟩
          · exact .inl q
          · exact .inr ⟨z, by simp at hz ⊢; rcases hz with hz | hz <;> simp [hz], q⟩
  cases p with
  | nil => simp [Lib.join] at h
  | cons x r =>
    rw [Lib.join_cons] at h
    exact key r x h
end Go.Proofs.YtbgmkplpolgebaaGreatDoor

namespace Go.Proofs.YtbgmkplpolgebaaGreatDoor
set_option linter.unusedSimpArgs false
set_option linter.unusedVariables false

/-- Numbers, one behind the other. -/
def numsA (b most : Nat) : List (List UInt8) → Option (List Nat)
  | [] => some []
  | p :: ps => match numA b most p with
    | none => none
    | some u => match numsA b most ps with
      | none => none
      | some N => some (u :: N)
theorem numsA_app (b most : Nat) : ∀ (A : List (List UInt8)) (NA : List Nat) (B : List (List UInt8)), numsA b most A = some NA → numsA b most (A ++ B) = (numsA b most B).map (NA ++ ·)
  | [], NA, B, h => by
    injection h with h
    subst h
    show numsA b most B = _
    cases numsA b most B <;> rfl
  | p :: A, NA, B, h => by
    simp only [numsA] at h
    show (match numA b most p with | none => none | some r => match numsA b most (A ++ B) with | none => none | some R => some (r :: R)) = _
    cases hp : numA b most p with
    | none => rw [hp] at h; cases h
    | some r =>
      rw [hp] at h
      cases ha : numsA b most A with
      | none => rw [ha] at h; cases h
      | some R =>
        rw [ha] at h
        injection h with h
        subst h
        simp only
        rw [numsA_app b most A R B ha]
        cases numsA b most B <;> rfl
theorem numsA_next {b most : Nat} {A : List (List UInt8)} {NA : List Nat} {p : List UInt8} {u : Nat} (h : numsA b most A = some NA) (hp : numA b most p = some u) : numsA b most (A ++ [p]) = some (NA ++ [u]) := by
  rw [numsA_app b most A NA [p] h]
  simp [numsA, hp]
theorem numsA_bad {b most : Nat} {A B : List (List UInt8)} {NA : List Nat} {p : List UInt8} (h : numsA b most A = some NA) (hp : numA b most p = none) : numsA b most (A ++ p :: B) = none := by
  rw [numsA_app b most A NA _ h]
  simp [numsA, hp]
theorem numsA_len {b most : Nat} : ∀ {ps : List (List UInt8)} {N : List Nat}, numsA b most ps = some N → N.length = ps.length ∧ ps = N.map (fmtU b) ∧ ∀ n ∈ N, n ≤ most
  | [], N, h => by
    injection h with h
    subst h
    simp
  | p :: ps, N, h => by
    simp only [numsA] at h
    cases hp : numA b most p with
    | none => rw [hp] at h; cases h
    | some u =>
      rw [hp] at h
      cases hq : numsA b most ps with
      | none => rw [hq] at h; cases h
      | some R =>
        rw [hq] at h
        injection h with h
        subst h
        obtain ⟨h1, h2, h3⟩ := numsA_len hq
        obtain ⟨g1, g2⟩ := numA_some hp
        refine ⟨by simp [h1], by rw [List.map_cons, g2, ← h2], fun n hn => ?_⟩
        rcases List.mem_cons.1 hn with rfl | hn
        · exact g1
        · exact h3 n hn
theorem numsA_map {b most : Nat} (hb : b = 10 ∨ b = 16) (hm : most ≤ 65535) : ∀ (N : List Nat), (∀ n ∈ N, n ≤ most) → numsA b most (N.map (fmtU b)) = some N
  | [], _ => rfl
  | u :: N, h => by
    rw [List.map_cons]
    simp only [numsA]
    rw [numA_fmt hb (h u (by simp)) hm, numsA_map hb hm N (fun n hn => h n (by simp [hn]))]
def read4 (h : List UInt8) : Option (List UInt8) := match numsA 10 255 (pieces [] 46 h) with
  | none => none
  | some N => if N.length = 4 then some (N.map UInt8.ofNat) else none
def inner (h : List UInt8) : List UInt8 := (h.drop 1).dropLast
def read6 (h : List UInt8) : Option (List UInt8) := if 2 < h.length ∧ h.head? = some 91 ∧ h.getLast? = some 93 then (match numsA 16 65535 (pieces [] 58 (inner h)) with
  | none => none
  | some N => if N.length = 8 then some (unpairs N) else none) else none
def lastC (c : UInt8) : List UInt8 → Option (List UInt8 × List UInt8)
  | [] => none
  | b :: l => match lastC c l with
    | some x => some (b :: x.1, x.2)
    | none => if b = c then some ([], l) else none
theorem lastC_none {c : UInt8} : ∀ {s : List UInt8}, c ∉ s → lastC c s = none
  | [], _ => rfl
  | b :: l, h => by
    have hb : b ≠ c := fun e => h (by rw [e]; exact .head _)
    rw [lastC, lastC_none (fun q => h (.tail _ q))]
    simp only
    rw [if_neg hb]
theorem lastC_app {c : UInt8} {t : List UInt8} (ht : c ∉ t) : ∀ (h : List UInt8), lastC c (h ++ c :: t) = some (h, t)
  | [] => by
    rw [List.nil_append, lastC, lastC_none ht]
    simp
  | b :: h => by
    rw [List.cons_append, lastC, lastC_app ht h]
theorem lastC_some {c : UInt8} : ∀ {s h t : List UInt8}, lastC c s = some (h, t) → s = h ++ c :: t ∧ c ∉ t
  | [], h, t, e => by cases e
  | b :: l, h, t, e => by
    rw [lastC] at e
    cases hl : lastC c l with
    | some x =>
      rw [hl] at e
      injection e with e
      injection e with e1 e2
      subst e1 e2
      obtain ⟨h1, h2⟩ := lastC_some (h := x.1) (t := x.2) hl
      exact ⟨by rw [List.cons_append, ← h1], h2⟩
    | none =>
      rw [hl] at e
      simp only at e
      by_cases hb : b = c
      · rw [if_pos hb] at e
        injection e with e
        injection e with e1 e2
        subst e1 e2
        refine ⟨by rw [hb]; rfl, fun q => ?_⟩
        have : ∀ (s : List UInt8), c ∈ s → lastC c s ≠ none := by
          intro s
          induction s with
          | nil => intro q; cases q
          | cons x r ih =>
            intro q
            rw [lastC]
            cases hr : lastC c r with
            | some y => simp
            | none =>
              rcases List.mem_cons.1 q with q | q
              · simp [q]
              · exact absurd hr (ih q)
        exact this l q hl
      · rw [if_neg hb] at e
        cases e
/-- The address that package addr reads. -/
def ipP (s h : List UInt8) : Option (Int × List UInt8) := if s.head? = some 91 then (read6 h).map (fun ip => ((6 : Int), ip)) else (read4 h).map (fun ip => ((4 : Int), ip))
def aP (s : List UInt8) : Option AdrV := match lastC 58 s with
  | none => none
  | some x => if x.1 = [] then none else match ipP s x.1 with
    | none => none
    | some y => match numA 10 65535 x.2 with
      | none => none
      | some p => if p = 0 then none else some ⟨y.1, mkB y.2, p⟩
theorem dec_free {c : UInt8} (h : isDig c = false) (u : Nat) : c ∉ Lib.decDigits u := by
  intro q
  have := (dec_bytes u).1 c q
  simp only [isDig, Bool.and_eq_false_iff, decide_eq_false_iff_not] at h
  omega
theorem hex_free {c : UInt8} (h : hexN c = none) (u : Nat) : c ∉ hexG u := by
  intro q
  have := hexG_bytes u c q
  unfold hexN at h
  by_cases c1 : 48 ≤ c.toNat ∧ c.toNat ≤ 57
  · rw [if_pos c1] at h; cases h
  · rw [if_neg c1] at h
    by_cases c2 : 97 ≤ c.toNat ∧ c.toNat ≤ 102
    · rw [if_pos c2] at h; cases h
    · omega
theorem b8_back (l : List UInt8) : (l.map (fun b => b.toNat)).map UInt8.ofNat = l := by
  rw [List.map_map]
  conv => rhs; rw [← List.map_id l]
  apply List.map_congr_left
  intro b _
  simp
theorem bytes_forth {N : List Nat} (h : ∀ n ∈ N, n ≤ 255) : (N.map UInt8.ofNat).map (fun b => b.toNat) = N := by
  rw [List.map_map]
  conv => rhs; rw [← List.map_id N]
  apply List.map_congr_left
  intro n hn
  have := h n hn
  show (UInt8.ofNat n).toNat = n
  rw [UInt8.toNat_ofNat']
  omega
theorem inner_form {h : List UInt8} (h1 : 2 < h.length) (h2 : h.head? = some 91) (h3 : h.getLast? = some 93) : h = 91 :: (inner h ++ [93]) := by
  match h, h1, h2, h3 with
  | a :: r, h1, h2, h3 =>
    simp at h2
    subst h2
    have hr : r ≠ [] := by intro q; subst q; simp at h1
    rw [List.getLast?_cons] at h3
    have h4 : r.getLast? = some 93 := by
      cases hq : r.getLast? with
      | none => exact absurd (List.getLast?_eq_none_iff.1 hq) hr
      | some x => rw [hq] at h3; simpa using h3
    unfold inner
    rw [List.drop_succ_cons, List.drop_zero]
    congr 1
    obtain ⟨ys, rfl⟩ := List.getLast?_eq_some_iff.1 h4
    simp
theorem read4_text {h ip : List UInt8} (e : read4 h = some ip) : ip.length = 4 ∧ h = Lib.join (ip.map (fun b => Lib.decDigits b.toNat)) [46] := by
  unfold read4 at e
  split at e
  · cases e
  · next N hN =>
    split at e
    · next hl =>
      injection e with e
      subst e
      obtain ⟨h1, h2, h3⟩ := numsA_len hN
      refine ⟨by simpa using hl, ?_⟩
      have : (N.map UInt8.ofNat).map (fun b => Lib.decDigits b.toNat) = N.map (fmtU 10) := by
        rw [show (fun b : UInt8 => Lib.decDigits b.toNat) = (fun n => fmtU 10 n) ∘ (fun b : UInt8 => b.toNat) from rfl, ← List.map_map, bytes_forth h3]
      rw [this, ← h2, join_piecesC]
    · cases e
theorem read6_text {h ip : List UInt8} (e : read6 h = some ip) : ip.length = 16 ∧ h = 91 :: (Lib.join ((pairsN ip).map hexG) [58] ++ [93]) := by
  unfold read6 at e
  split at e
  · next hc =>
    split at e
    · cases e
    · next N hN =>
      split at e
      · next hl =>
        injection e with e
        subst e
        obtain ⟨h1, h2, h3⟩ := numsA_len hN
        refine ⟨by rw [unpairs_len, hl], ?_⟩
        rw [pairs_back N (fun n hn => by have := h3 n hn; omega)]
        have : N.map hexG = N.map (fmtU 16) := rfl
        rw [this, ← h2, join_piecesC]
        exact inner_form hc.1 hc.2.1 hc.2.2
      · cases e
  · cases e
theorem aP_text {s : List UInt8} {x : AdrV} (e : aP s = some x) : adrOk x = true ∧ atxt x = s := by
  unfold aP at e
  split at e
  · cases e
  · next z hz =>
    obtain ⟨h, t⟩ := z
    obtain ⟨hs, ht⟩ := lastC_some hz
    simp only at e
    split at e
    · cases e
    · split at e
      · cases e
      · next y hy =>
        split at e
        · cases e
        · next p hp =>
          split at e
          · cases e
          · next hp0 =>
            injection e with e
            subst e
            obtain ⟨g1, g2⟩ := numA_some hp
            unfold ipP at hy
            by_cases hd : s.head? = some 91
            · rw [if_pos hd] at hy
              cases hr : read6 h with
              | none => rw [hr] at hy; cases hy
              | some ip =>
                rw [hr] at hy
                injection hy with hy
                subst hy
                obtain ⟨k1, k2⟩ := read6_text hr
                refine ⟨adrOk_iff.2 ⟨.inr ⟨rfl, by show (mkB ip).size = 16; rw [show (mkB ip).size = ip.length by simp [mkB, ByteArray.size], k1]⟩, by simp only; omega, by simp only; omega⟩, ?_⟩
                unfold atxt bodyT
                simp only
                rw [if_neg (by decide), hs, Int.toNat_natCast, mkB_data, ← k2]
                have : Lib.decDigits p = t := g2
                rw [this]
            · rw [if_neg hd] at hy
              cases hr : read4 h with
              | none => rw [hr] at hy; cases hy
              | some ip =>
                rw [hr] at hy
                injection hy with hy
                subst hy
                obtain ⟨k1, k2⟩ := read4_text hr
                refine ⟨adrOk_iff.2 ⟨.inl ⟨rfl, by show (mkB ip).size = 4; rw [show (mkB ip).size = ip.length by simp [mkB, ByteArray.size], k1]⟩, by simp only; omega, by simp only; omega⟩, ?_⟩
                unfold atxt bodyT
                simp only
                rw [if_pos trivial, hs, Int.toNat_natCast, mkB_data, ← k2]
                have : Lib.decDigits p = t := g2
                rw [this]
end Go.Proofs.YtbgmkplpolgebaaGreatDoor
