/-
  What a valid list of files is, told twice: as package files asks it (with sets of joined paths), and as the reference does (file beside file). The two are one. Plain Lean, no program. No condition.
-/
import Derived.Test.YtecjdppkpfpniaaGreatDoorBytes
import Derived.Lib.Join
import Derived.Lib.ItoaLen
namespace Go.Proofs.YtecjdppkpfpniaaGreatDoor
set_option linter.unusedSimpArgs false
set_option linter.unusedVariables false

/-- A file as the program has it: path, length, pad. -/
structure FileV where
  path : List ByteArray
  len : Int
  pad : Bool

def dot : ByteArray := ⟨#[46]⟩
def dots : ByteArray := ⟨#[46, 46]⟩
def dotpad : ByteArray := ⟨#[46, 112, 97, 100]⟩
def badByte (c : UInt8) : Bool := decide (c.toNat < 32) || decide (c.toNat = 127) || decide (c.toNat = 47) || decide (c.toNat = 92)
def partOk (s : ByteArray) : Bool := s.data.toList.all (fun c => !badByte c) && decide (1 ≤ s.size) && decide (s.size ≤ 40) && !decide (s = dot) && !decide (s = dots)
def joinB (p : List ByteArray) : ByteArray := ⟨(Lib.join (p.map (·.data.toList)) [47]).toArray⟩
def itoaB (n : Int) : ByteArray := ⟨(Lib.itoa n).toArray⟩
def padPath (n : Int) : List ByteArray := [dotpad, itoaB n]

def named (f : FileV) : Bool := decide (1 ≤ f.path.length) && decide (f.path.length ≤ 8) && f.path.all partOk
def badName (f : FileV) : Bool := !named f || (f.pad && !decide (f.path = padPath f.len)) || (!f.pad && decide (f.path.head? = some dotpad))
def badRange (f : FileV) : Bool := decide (f.len < 0) || decide (65536 < f.len) || (f.pad && decide (f.len < 1))
def heads (p : List ByteArray) (k : Nat) : List ByteArray := (List.range' 1 k).map fun i => joinB (p.take i)
def dupA (M A : List ByteArray) (f : FileV) : Bool := !f.pad && (hasB M (joinB f.path) || hasB A (joinB f.path) || (heads f.path (f.path.length - 1)).any (hasB M))
def badState (i last : Nat) (f : FileV) : Bool := f.pad && (decide (i = 0) || decide (i = last))
def errA (M A : List ByteArray) (tot : Int) (i last : Nat) (f : FileV) : Option Int :=
  if badName f then some 5 else if badRange f then some 7 else if dupA M A f then some 6 else if badState i last f then some 9 else if 65536 < tot + f.len then some 11 else none
def addM (f : FileV) (M : List ByteArray) : List ByteArray := if f.pad then M else joinB f.path :: M
def addA (f : FileV) (A : List ByteArray) : List ByteArray := if f.pad then A else (heads f.path (f.path.length - 1)).reverse ++ A
def goA (last : Nat) : Nat → List ByteArray → List ByteArray → Int → List FileV → Int × Int
  | _, _, _, _, [] => (-1, 0)
  | i, M, A, tot, f :: r => match errA M A tot i last f with
    | some e => (i, e)
    | none => goA last (i + 1) (addM f M) (addA f A) (tot + f.len) r
/-- Wrong. -/
def wrongOf (l : List FileV) : Int × Int := if l.length = 0 ∨ 40 < l.length then (0, 4) else goA (l.length - 1) 0 [] [] 0 l
def validOf (l : List FileV) : Bool := decide ((wrongOf l).2 = 0)

def namedR (f : FileV) : Bool := if f.pad then decide (f.path = padPath f.len) else f.path.all partOk && decide (1 ≤ f.path.length) && decide (f.path.length ≤ 8) && !decide (f.path.head? = some dotpad)
def dupR (pre : List FileV) (f : FileV) : Bool := pre.any fun g => !f.pad && !g.pad && (decide (f.path <+: g.path) || decide (g.path <+: f.path))
def errR (pre : List FileV) (tot : Int) (i last : Nat) (f : FileV) : Option Int :=
  if !namedR f then some 5 else if decide (f.len < 0) || decide (65536 < f.len) || (f.pad && decide (f.len = 0)) then some 7 else if dupR pre f then some 6 else if badState i last f then some 9 else if 65536 < tot + f.len then some 11 else none
def goR (last : Nat) : List FileV → Nat → Int → List FileV → Int × Int
  | _, _, _, [] => (-1, 0)
  | pre, i, tot, f :: r => match errR pre tot i last f with
    | some e => (i, e)
    | none => goR last (pre ++ [f]) (i + 1) (tot + f.len) r
def wrongR (l : List FileV) : Int × Int := if l.length = 0 ∨ 40 < l.length then (0, 4) else goR (l.length - 1) [] 0 0 l

/-! ### the joined path tells the path -/
theorem app_inj {x y T U : List UInt8} (hx : 47 ∉ x) (hy : 47 ∉ y) (hT : T = [] ∨ ∃ r, T = 47 :: r) (hU : U = [] ∨ ∃ r, U = 47 :: r) (h : x ++ T = y ++ U) : x = y ∧ T = U := by
  induction x generalizing y with
  | nil =>
    cases y with
    | nil => exact ⟨rfl, h⟩
    | cons b y =>
      rcases hT with rfl | ⟨r, rfl⟩
      · simp at h
      · simp at h
        exact absurd (h.1 ▸ List.mem_cons_self) hy
  | cons a x ih =>
    cases y with
    | nil =>
      rcases hU with rfl | ⟨r, rfl⟩
      · simp at h
      · simp at h
        exact absurd (h.1 ▸ List.mem_cons_self) hx
    | cons b y =>
      simp at h hx hy
      obtain ⟨rfl, h⟩ := h
      obtain ⟨rfl, h'⟩ := ih (fun m => hx.2 m) (fun m => hy.2 m) h
      exact ⟨rfl, h'⟩
theorem tail_form (r : List (List UInt8)) : Lib.joinTail [47] r = [] ∨ ∃ t, Lib.joinTail [47] r = 47 :: t := by
  cases r with
  | nil => exact .inl rfl
  | cons y r => exact .inr ⟨_, by simp [Lib.joinTail]; rfl⟩
theorem tail_inj : ∀ (r q : List (List UInt8)), (∀ x ∈ r, 47 ∉ x) → (∀ x ∈ q, 47 ∉ x) → Lib.joinTail [47] r = Lib.joinTail [47] q → r = q
  | [], [], _, _, _ => rfl
  | [], y :: q, _, _, h => by simp [Lib.joinTail] at h
  | x :: r, [], _, _, h => by simp [Lib.joinTail] at h
  | x :: r, y :: q, hr, hq, h => by
    have e : ∀ (z : List UInt8) (s : List (List UInt8)), Lib.joinTail [47] (z :: s) = 47 :: (z ++ Lib.joinTail [47] s) := fun z s => by simp [Lib.joinTail]
    rw [e, e] at h
    obtain ⟨rfl, h'⟩ := app_inj (hr x (.head _)) (hq y (.head _)) (tail_form r) (tail_form q) (List.cons.inj h).2
    rw [tail_inj r q (fun z hz => hr z (.tail _ hz)) (fun z hz => hq z (.tail _ hz)) h']
theorem join_inj {p q : List (List UInt8)} (hp : p ≠ []) (hq : q ≠ []) (np : ∀ x ∈ p, 47 ∉ x) (nq : ∀ x ∈ q, 47 ∉ x) (h : Lib.join p [47] = Lib.join q [47]) : p = q := by
  cases p with
  | nil => exact absurd rfl hp
  | cons x r =>
    cases q with
    | nil => exact absurd rfl hq
    | cons y s =>
      rw [Lib.join_cons, Lib.join_cons] at h
      obtain ⟨rfl, h'⟩ := app_inj (np x (.head _)) (nq y (.head _)) (tail_form r) (tail_form s) h
      rw [tail_inj r s (fun z hz => np z (.tail _ hz)) (fun z hz => nq z (.tail _ hz)) h']
theorem part_free {s : ByteArray} (h : partOk s = true) : 47 ∉ s.data.toList := by
  intro hm
  simp only [partOk, Bool.and_eq_true, List.all_eq_true] at h
  have := h.1.1.1.1 47 hm
  simp [badByte] at this
theorem joinB_inj {p q : List ByteArray} (hp : p ≠ []) (hq : q ≠ []) (np : ∀ x ∈ p, partOk x = true) (nq : ∀ x ∈ q, partOk x = true) (h : joinB p = joinB q) : p = q := by
  have e : Lib.join (p.map (·.data.toList)) [47] = Lib.join (q.map (·.data.toList)) [47] := by
    have := congrArg (fun b : ByteArray => b.data.toList) h
    simpa [joinB] using this
  have hm := join_inj (by simpa using hp) (by simpa using hq) (by simpa using fun x hx => part_free (np x hx)) (by simpa using fun x hx => part_free (nq x hx)) e
  have inj : ∀ a b : ByteArray, a.data.toList = b.data.toList → a = b := fun a b hab => by
    obtain ⟨⟨a⟩⟩ := a
    obtain ⟨⟨b⟩⟩ := b
    simp at hab
    rw [hab]
  exact (List.map_inj_right (f := fun b : ByteArray => b.data.toList) (fun a b hab => inj a b hab)).1 hm

/-! ### numbers are parts -/
theorem dec_bytes (u : Nat) : (∀ c ∈ Lib.decDigits u, 48 ≤ c.toNat ∧ c.toNat ≤ 57) ∧ Lib.decDigits u ≠ [] := by
  induction u using Nat.strongRecOn with
  | ind u ih =>
    rw [Lib.decDigits]
    split
    · next h =>
      refine ⟨fun c hc => ?_, by simp⟩
      simp at hc
      subst hc
      simp [UInt8.toNat_ofNat']
      omega
    · next h =>
      refine ⟨fun c hc => ?_, by simp⟩
      simp at hc
      rcases hc with hc | hc
      · exact (ih (u / 10) (by omega)).1 c hc
      · subst hc
        simp [UInt8.toNat_ofNat']
        omega
theorem itoa_part {n : Int} (h0 : -9223372036854775808 ≤ n) (h1 : n ≤ 9223372036854775807) : partOk (itoaB n) = true := by
  have hl := Lib.itoa_length_le n h0 h1
  have hb : (∀ c ∈ Lib.itoa n, c.toNat = 45 ∨ (48 ≤ c.toNat ∧ c.toNat ≤ 57)) ∧ Lib.itoa n ≠ [] := by
    unfold Lib.itoa
    split
    · refine ⟨fun c hc => ?_, by simp⟩
      simp at hc
      rcases hc with rfl | hc
      · exact .inl rfl
      · exact .inr ((dec_bytes _).1 c hc)
    · exact ⟨fun c hc => .inr ((dec_bytes _).1 c hc), (dec_bytes _).2⟩
  obtain ⟨hb, hne⟩ := hb
  have hpos : 0 < (Lib.itoa n).length := List.length_pos_iff.2 hne
  have hdot : ∀ t : List UInt8, (46 : UInt8) ∈ t → itoaB n ≠ ⟨t.toArray⟩ := fun t ht e => by
    have : Lib.itoa n = t := by
      have := congrArg (fun b : ByteArray => b.data.toList) e
      simpa [itoaB] using this
    rw [this] at hb
    have := hb 46 ht
    simp at this
  simp only [partOk, Bool.and_eq_true, List.all_eq_true, decide_eq_true_eq, Bool.not_eq_true', decide_eq_false_iff_not]
  refine ⟨⟨⟨⟨fun c hc => ?_, ?_⟩, ?_⟩, hdot [46] (by simp)⟩, hdot [46, 46] (by simp)⟩
  · have := hb c (by simpa [itoaB] using hc)
    simp only [badByte, Bool.or_eq_false_iff, decide_eq_false_iff_not]
    omega
  · show 1 ≤ (Lib.itoa n).toArray.size
    simp
    omega
  · show (Lib.itoa n).toArray.size ≤ 40
    simp
    omega

/-! ### the two are one -/
theorem name_same (f : FileV) (h0 : -9223372036854775808 ≤ f.len) (h1 : f.len ≤ 9223372036854775807) : namedR f = !badName f := by
  obtain ⟨p, n, pad⟩ := f
  cases pad
  · simp only [namedR, badName, named]
    cases p.all partOk <;> by_cases a : 1 ≤ p.length <;> by_cases b : p.length ≤ 8 <;> by_cases c : p.head? = some dotpad <;> simp [a, b, c]
  · simp only [namedR, badName, named]
    by_cases h : p = padPath n
    · subst h
      have := itoa_part h0 h1
      have h2 : partOk dotpad = true := by decide
      simp [padPath, this, h2]
    · simp [h]
theorem range_same (f : FileV) : (decide (f.len < 0) || decide (65536 < f.len) || (f.pad && decide (f.len = 0))) = badRange f := by
  obtain ⟨p, n, pad⟩ := f
  unfold badRange
  cases pad
  · simp
  · by_cases a : n < 0
    · simp [a]
    · by_cases b : 65536 < n
      · simp [b]
      · by_cases c : n = 0
        · subst c; simp
        · simp [a, b, c]; omega
theorem heads_mem (p : List ByteArray) (k : Nat) (s : ByteArray) : s ∈ heads p k ↔ ∃ i, 1 ≤ i ∧ i ≤ k ∧ joinB (p.take i) = s := by
  simp only [heads, List.mem_map, List.mem_range'_1]
  constructor
  · rintro ⟨i, ⟨a, b⟩, e⟩
    exact ⟨i, a, by omega, e⟩
  · rintro ⟨i, a, b, e⟩
    exact ⟨i, ⟨a, by omega⟩, e⟩
structure Tied (M A : List ByteArray) (pre : List FileV) : Prop where
  m : ∀ s, s ∈ M ↔ ∃ g ∈ pre, g.pad = false ∧ joinB g.path = s
  a : ∀ s, s ∈ A ↔ ∃ g ∈ pre, g.pad = false ∧ ∃ i, 1 ≤ i ∧ i ≤ g.path.length - 1 ∧ joinB (g.path.take i) = s
  ok : ∀ g ∈ pre, named g = true
theorem named_iff (f : FileV) : named f = true ↔ 1 ≤ f.path.length ∧ f.path.length ≤ 8 ∧ ∀ x ∈ f.path, partOk x = true := by
  simp [named, and_assoc]
theorem dup_same {M A : List ByteArray} {pre : List FileV} (h : Tied M A pre) (f : FileV) (hf : named f = true) : dupR pre f = dupA M A f := by
  obtain ⟨f1, f2, f3⟩ := (named_iff f).1 hf
  have fne : f.path ≠ [] := by intro e; simp [e] at f1
  cases hp : f.pad with
  | true => simp [dupR, dupA, hp]
  | false =>
    rw [Bool.eq_iff_iff]
    simp only [dupR, dupA, hp, List.any_eq_true, Bool.and_eq_true, Bool.or_eq_true, decide_eq_true_eq, Bool.not_false, true_and, Bool.not_eq_true', hasB_iff]
    constructor
    · rintro ⟨g, hg, gp, hw⟩
      obtain ⟨g1, g2, g3⟩ := (named_iff g).1 (h.ok g hg)
      rcases hw with hw | hw
      · have ht := List.prefix_iff_eq_take.1 hw
        have hl := hw.length_le
        by_cases e : f.path.length = g.path.length
        · refine .inl (.inl ((h.m _).2 ⟨g, hg, gp, ?_⟩))
          rw [ht, e, List.take_length]
        · exact .inl (.inr ((h.a _).2 ⟨g, hg, gp, f.path.length, f1, by omega, by rw [← ht]⟩))
      · have ht := List.prefix_iff_eq_take.1 hw
        have hl := hw.length_le
        by_cases e : f.path.length = g.path.length
        · refine .inl (.inl ((h.m _).2 ⟨g, hg, gp, ?_⟩))
          rw [ht, ← e, List.take_length]
        · exact .inr ⟨_, (heads_mem _ _ _).2 ⟨g.path.length, g1, by omega, rfl⟩, (h.m _).2 ⟨g, hg, gp, by rw [← ht]⟩⟩
    · rintro ((hm | ha) | ⟨s, hs, hm⟩)
      · obtain ⟨g, hg, gp, e⟩ := (h.m _).1 hm
        obtain ⟨g1, g2, g3⟩ := (named_iff g).1 (h.ok g hg)
        have e := joinB_inj (by intro e; simp [e] at g1) fne g3 f3 e
        exact ⟨g, hg, gp, .inl (e ▸ List.prefix_refl _)⟩
      · obtain ⟨g, hg, gp, i, i1, i2, e⟩ := (h.a _).1 ha
        obtain ⟨g1, g2, g3⟩ := (named_iff g).1 (h.ok g hg)
        have e := joinB_inj (by intro e; rcases List.take_eq_nil_iff.1 e with h | h <;> simp [h] at * <;> omega) fne (fun x hx => g3 x (List.mem_of_mem_take hx)) f3 e
        exact ⟨g, hg, gp, .inl (e ▸ List.take_prefix _ _)⟩
      · obtain ⟨i, i1, i2, rfl⟩ := (heads_mem _ _ _).1 hs
        obtain ⟨g, hg, gp, e⟩ := (h.m _).1 hm
        obtain ⟨g1, g2, g3⟩ := (named_iff g).1 (h.ok g hg)
        have e := joinB_inj (by intro e; simp [e] at g1) (by intro e; rcases List.take_eq_nil_iff.1 e with h | h <;> simp [h] at * <;> omega) g3 (fun x hx => f3 x (List.mem_of_mem_take hx)) e
        exact ⟨g, hg, gp, .inr (e ▸ List.take_prefix _ _)⟩
theorem tied_nil : Tied [] [] [] := ⟨by simp, by simp, by simp⟩
theorem tied_add {M A : List ByteArray} {pre : List FileV} (h : Tied M A pre) (f : FileV) (hf : named f = true) : Tied (addM f M) (addA f A) (pre ++ [f]) := by
  refine ⟨fun s => ?_, fun s => ?_, fun g hg => ?_⟩
  · cases hp : f.pad with
    | true => simp [addM, hp, h.m s, or_and_right, exists_or]
    | false =>
      simp only [addM, hp, Bool.false_eq_true, if_false, List.mem_cons, h.m s, List.mem_append, List.mem_singleton]
      constructor
      · rintro (rfl | ⟨g, hg, x⟩)
        · exact ⟨f, .inr (.inl rfl), hp, rfl⟩
        · exact ⟨g, .inl hg, x⟩
      · rintro ⟨g, hg | hg, x, y⟩
        · exact .inr ⟨g, hg, x, y⟩
        · simp at hg
          subst hg
          exact .inl y.symm
  · cases hp : f.pad with
    | true => simp [addA, hp, h.a s, or_and_right, exists_or]
    | false =>
      simp only [addA, hp, Bool.false_eq_true, if_false, List.mem_append, List.mem_reverse, heads_mem, h.a s, List.mem_singleton]
      constructor
      · rintro (⟨i, a, b, e⟩ | ⟨g, hg, x⟩)
        · exact ⟨f, .inr rfl, hp, i, a, b, e⟩
        · exact ⟨g, .inl hg, x⟩
      · rintro ⟨g, hg | rfl, x, y⟩
        · exact .inr ⟨g, hg, x, y⟩
        · exact .inl y
  · simp at hg
    rcases hg with hg | rfl
    · exact h.ok g hg
    · exact hf
def Fits (l : List FileV) : Prop := ∀ f ∈ l, -9223372036854775808 ≤ f.len ∧ f.len ≤ 9223372036854775807
theorem go_same (last : Nat) : ∀ (l : List FileV) (pre : List FileV) (M A : List ByteArray) (i : Nat) (tot : Int), Fits l → Tied M A pre → goR last pre i tot l = goA last i M A tot l
  | [], _, _, _, _, _, _, _ => rfl
  | f :: r, pre, M, A, i, tot, hl, h => by
    have hf := hl f (.head _)
    unfold goR goA
    have e : errR pre tot i last f = errA M A tot i last f := by
      unfold errR errA
      rw [name_same f hf.1 hf.2, range_same f]
      simp only [Bool.not_not]
      cases hb : badName f with
      | true => simp
      | false =>
        have hn : named f = true := by
          simp only [badName, Bool.or_eq_false_iff, Bool.not_eq_false'] at hb
          exact hb.1.1
        rw [dup_same h f hn]
    rw [e]
    cases he : errA M A tot i last f with
    | some x => rfl
    | none =>
      have hn : named f = true := by
        unfold errA at he
        split at he
        · cases he
        · next hb =>
          simp only [badName, Bool.not_eq_true, Bool.or_eq_false_iff, Bool.not_eq_false'] at hb
          exact hb.1.1
      exact go_same last r _ _ _ _ _ (fun g hg => hl g (.tail _ hg)) (tied_add h f hn)
theorem wrong_same (l : List FileV) (h : Fits l) : wrongR l = wrongOf l := by
  unfold wrongR wrongOf
  split
  · rfl
  · exact go_same _ l [] [] [] 0 0 h tied_nil
end Go.Proofs.YtecjdppkpfpniaaGreatDoor
