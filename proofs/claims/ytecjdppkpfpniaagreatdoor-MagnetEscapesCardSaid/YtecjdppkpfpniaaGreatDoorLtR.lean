/-
  What reading a message computes, told in plain words, by the program and by the reference; both read just what is written of valid messages. Plain Lean, no program. No condition.
-/
import Derived.Test.YtecjdppkpfpniaaGreatDoorLtM
import Derived.Test.YtecjdppkpfpniaaGreatDoorLtN
import Derived.Lib.IndexMore
namespace Go.Proofs.YtecjdppkpfpniaaGreatDoor
set_option linter.unusedSimpArgs false
set_option linter.unusedVariables false

theorem namesB_iff {l : List ByteArray} : namesB l = true ↔ (∀ i, i < l.length → nameAt l i = true) ∧ 1 ≤ l.length ∧ l.length ≤ 20 := by
  simp only [namesB, Bool.and_eq_true, List.all_eq_true, List.mem_range, decide_eq_true_eq, and_assoc]
theorem nameAt_pre (p r : List ByteArray) (i : Nat) (h : i < p.length) : nameAt (p ++ r) i = nameAt p i := by
  unfold nameAt
  rw [List.getElem?_append_left h]
  cases i with
  | zero => rfl
  | succ j =>
    dsimp only
    rw [List.getElem?_append_left (show j < p.length by omega)]
theorem namesB_pre {p r : List ByteArray} (h : namesB (p ++ r) = true) (hp : p ≠ []) : namesB p = true := by
  obtain ⟨h1, h2, h3⟩ := namesB_iff.1 h
  rw [List.length_append] at h1 h3
  have : 0 < p.length := List.length_pos_iff.2 hp
  exact namesB_iff.2 ⟨fun i hi => by rw [← nameAt_pre p r i hi]; exact h1 i (by omega), by omega, by omega⟩
theorem nameAt_size {l : List ByteArray} {i : Nat} (h : nameAt l i = true) {n : ByteArray} (hn : l[i]? = some n) : n.size = 20 := by
  unfold nameAt at h
  rw [hn] at h
  simp only [Bool.and_eq_true, decide_eq_true_eq] at h
  exact h.1
theorem namesB_size {l : List ByteArray} (h : namesB l = true) {n : ByteArray} (hn : n ∈ l) : n.size = 20 := by
  obtain ⟨i, hi, rfl⟩ := List.mem_iff_getElem.1 hn
  exact nameAt_size ((namesB_iff.1 h).1 i hi) (List.getElem?_eq_getElem hi)
theorem bytes_back (n : ByteArray) : (⟨n.data.toList.toArray⟩ : ByteArray) = n := by
  obtain ⟨⟨l⟩⟩ := n
  rfl
theorem valid_parts {m : MsgV} (h : validM m = true) : (1 ≤ m.port ∧ m.port ≤ 65535) ∧ namesB m.names = true ∧ cookieOk m.cookie = true := by
  simp only [validM, Bool.and_eq_true, decide_eq_true_eq] at h
  exact ⟨⟨h.1.1.1, h.1.1.2⟩, h.1.2, h.2⟩
theorem valid_of {p : Int} {N : List ByteArray} {c : ByteArray} (h1 : 1 ≤ p ∧ p ≤ 65535) (h2 : namesB N = true) (h3 : cookieOk c = true) : validM ⟨p, N, c⟩ = true := by
  simp only [validM, Bool.and_eq_true, decide_eq_true_eq]
  exact ⟨⟨h1, h2⟩, h3⟩
theorem cookie_parts {c : ByteArray} (h : cookieOk c = true) : (∀ b ∈ c.data.toList, 33 ≤ b.toNat ∧ b.toNat ≤ 126) ∧ 1 ≤ c.size ∧ c.size ≤ 30 := by
  simp only [cookieOk, Bool.and_eq_true, decide_eq_true_eq, List.all_eq_true] at h
  exact ⟨h.1.1, h.1.2, h.2⟩
/-! ### the lines -/
def nameLn (n : ByteArray) : List UInt8 := nameL ++ hexOf n.data.toList
def cookLn (c : ByteArray) : List UInt8 := cookL ++ c.data.toList
theorem linesW_eq (m : MsgV) : linesW m = firstL :: (portL ++ Lib.itoa m.port) :: (m.names.map nameLn ++ [cookLn m.cookie, [], []]) := rfl
theorem lines_free {m : MsgV} (h : validM m = true) : ∀ L ∈ linesW m, (13 : UInt8) ∉ L := by
  obtain ⟨⟨h1, h2⟩, h3, h4⟩ := valid_parts h
  intro L hL
  rw [linesW_eq] at hL
  simp only [List.mem_cons, List.mem_append, List.mem_map, List.not_mem_nil, or_false] at hL
  rcases hL with rfl | rfl | ⟨n, hn, rfl⟩ | rfl | rfl | rfl
  · decide
  · intro q
    rcases List.mem_append.1 q with q | q
    · revert q; decide
    · have := itoa_bytesL (by omega) q
      exact absurd this.1 (by decide)
  · intro q
    rcases List.mem_append.1 q with q | q
    · revert q; decide
    · exact absurd (hex_bytes q).1 (by decide)
  · intro q
    rcases List.mem_append.1 q with q | q
    · revert q; decide
    · exact absurd ((cookie_parts h4).1 _ q).1 (by decide)
  · simp
  · simp
theorem lines_written {m : MsgV} (h : validM m = true) : linesC (writtenL m) = linesW m := lines_join _ (by rw [linesW_eq]; simp) (lines_free h)
theorem written_of_lines {m : MsgV} {s : List UInt8} (h : linesC s = linesW m) : s = writtenL m := by
  rw [← join_lines s.length s (Nat.le_refl _), h]
  rfl
theorem join_names (c : List UInt8) : ∀ l : List ByteArray, joinC (l.map nameLn ++ [c, [], []]) = l.flatMap (fun n => nameLn n ++ [13, 10]) ++ (c ++ [13, 10, 13, 10])
  | [] => by simp [joinC]
  | n :: l => by
    rw [List.map_cons, List.cons_append, join_cons2 _ (by simp), join_names c l, List.flatMap_cons]
    simp
theorem written_flat (m : MsgV) : writtenL m = firstL ++ [13, 10] ++ portL ++ Lib.itoa m.port ++ [13, 10] ++ m.names.flatMap (fun n => nameLn n ++ [13, 10]) ++ (cookLn m.cookie ++ [13, 10, 13, 10]) := by
  unfold writtenL
  rw [linesW_eq, join_cons2 _ (by simp), join_cons2 _ (by simp), join_names]
  simp
theorem flat_len : ∀ (l : List ByteArray), (∀ n ∈ l, n.size = 20) → (l.flatMap (fun n => nameLn n ++ [13, 10])).length = 48 * l.length
  | [], _ => rfl
  | n :: l, h => by
    have h1 := h n (by simp)
    have h2 : n.data.toList.length = 20 := by rw [Array.length_toList]; exact h1
    have h3 : nameL.length = 6 := rfl
    rw [List.flatMap_cons, List.length_append, flat_len l (fun x hx => h x (by simp [hx])), List.length_append, nameLn, List.length_append, hex_len, h2, h3]
    simp
    omega
theorem written_len {m : MsgV} (h : validM m = true) : (writtenL m).length ≤ 1400 := by
  obtain ⟨⟨h1, h2⟩, h3, h4⟩ := valid_parts h
  have e1 := itoa_short h1 h2
  have e2 := flat_len m.names (fun n hn => namesB_size h3 hn)
  have e3 := (namesB_iff.1 h3).2.2
  have e4 : m.cookie.data.toList.length ≤ 30 := by rw [Array.length_toList]; exact (cookie_parts h4).2.2
  have f1 : firstL.length = 14 := rfl
  have f2 : portL.length = 6 := rfl
  have f3 : cookL.length = 8 := rfl
  rw [written_flat]
  simp only [List.length_append, e2, cookLn, List.length_cons, List.length_nil, f1, f2, f3]
  omega
/-! ### the program's reading -/
structure RdS where
  port : Int
  names : List ByteArray
  cookie : ByteArray
  ph : Nat
def rd0 : RdS := ⟨0, [], ⟨#[]⟩, 0⟩
def keyLen (l : List UInt8) : Nat := (Lib.indexByte l 32 + 1).toNat
def portP (rest : List UInt8) : Option Int := match Lib.atoiAll rest with
  | .ok n => if Lib.itoa n = rest ∧ 1 ≤ n ∧ n ≤ 65535 then some n else none
  | _ => none
def addN (l : List ByteArray) (t : List UInt8) : List ByteArray := l ++ [⟨t.toArray⟩]
def takeP (s : RdS) (l : List UInt8) : Option RdS :=
  if l.take (keyLen l) = portL then
    (if s.ph = 0 then (match portP (l.drop (keyLen l)) with
      | some n => some { s with port := n, ph := 1 }
      | none => none) else none)
  else if l.take (keyLen l) = nameL then
    (if s.ph = 1 ∨ s.ph = 2 then (match unhex (l.drop (keyLen l)) with
      | some t => if namesB (addN s.names t) = true then some { s with names := addN s.names t, ph := 2 } else none
      | none => none) else none)
  else if l.take (keyLen l) = cookL then
    (if s.ph = 2 then (if cookieOk ⟨(l.drop (keyLen l)).toArray⟩ = true then some { s with cookie := ⟨(l.drop (keyLen l)).toArray⟩, ph := 3 } else none) else none)
  else none
def goL : List (List UInt8) → Nat → RdS → Except Nat MsgV
  | [], i, _ => .error i
  | x :: r, i, s => if r = [] then .error i else if x = [] ∧ s.ph = 3 then (if r = [[]] then .ok ⟨s.port, s.names, s.cookie⟩ else .error (i + 1)) else match takeP s x with
    | none => .error i
    | some s' => goL r (i + 1) s'
def readP (L : List (List UInt8)) : Except Nat MsgV := match L with
  | [] => .error 0
  | x :: r => if r = [] then .error 0 else if x = firstL then goL r 1 rd0 else .error 0
theorem goL_line : ∀ (L : List (List UInt8)) (i : Nat) (s : RdS) (n : Nat), goL L i s = .error n → n ≤ i + L.length
  | [], i, s, n, h => by
    simp only [goL, Except.error.injEq] at h
    omega
  | x :: r, i, s, n, h => by
    rw [goL] at h
    rw [List.length_cons]
    split at h
    · simp only [Except.error.injEq] at h; omega
    · split at h
      · split at h
        · cases h
        · simp only [Except.error.injEq] at h; omega
      · split at h
        · simp only [Except.error.injEq] at h; omega
        · have := goL_line r _ _ n h
          omega
theorem readP_line {L : List (List UInt8)} {n : Nat} (h : readP L = .error n) : n ≤ L.length := by
  unfold readP at h
  split at h
  · simp only [Except.error.injEq] at h; omega
  · split at h
    · simp only [Except.error.injEq] at h; omega
    · split at h
      · have := goL_line _ _ _ n h
        rw [List.length_cons]
        omega
      · simp only [Except.error.injEq] at h; omega
/-! what was read is a valid message's lines -/
def goodS (s : RdS) : Prop := match s.ph with
  | 0 => s.names = []
  | 1 => (1 ≤ s.port ∧ s.port ≤ 65535) ∧ s.names = []
  | 2 => (1 ≤ s.port ∧ s.port ≤ 65535) ∧ namesB s.names = true
  | 3 => (1 ≤ s.port ∧ s.port ≤ 65535) ∧ namesB s.names = true ∧ cookieOk s.cookie = true
  | _ => False
def restW (s : RdS) (m : MsgV) (L : List (List UInt8)) : Prop := match s.ph with
  | 0 => L = (portL ++ Lib.itoa m.port) :: (m.names.map nameLn ++ [cookLn m.cookie, [], []])
  | 3 => L = [[], []] ∧ m = ⟨s.port, s.names, s.cookie⟩
  | _ => m.port = s.port ∧ ∃ ext, m.names = s.names ++ ext ∧ L = ext.map nameLn ++ [cookLn m.cookie, [], []]
theorem portP_some {r : List UInt8} {n : Int} (h : portP r = some n) : r = Lib.itoa n ∧ 1 ≤ n ∧ n ≤ 65535 := by
  unfold portP at h
  split at h
  · split at h
    · next q =>
      injection h with h
      subst h
      exact ⟨q.1.symm, q.2⟩
    · cases h
  · cases h
theorem take_key {l k : List UInt8} (h : l.take (keyLen l) = k) : l = k ++ l.drop (keyLen l) := by
  rw [← h, List.take_append_drop]
theorem goL_ok : ∀ (L : List (List UInt8)) (i : Nat) (s : RdS) (m : MsgV), goodS s → goL L i s = .ok m → validM m = true ∧ restW s m L
  | [], i, s, m, _, h => by simp [goL] at h
  | x :: r, i, s, m, hg, h => by
    rw [goL] at h
    split at h
    · cases h
    next hr =>
    split at h
    · next hx =>
      split at h
      · next hr2 =>
        injection h with h
        subst h
        obtain ⟨rfl, hp⟩ := hx
        unfold goodS at hg
        unfold restW
        rw [hp] at hg ⊢
        exact ⟨valid_of hg.1 hg.2.1 hg.2.2, by rw [hr2], rfl⟩
      · cases h
    next hx =>
    cases ht : takeP s x with
    | none => rw [ht] at h; cases h
    | some s' =>
      rw [ht] at h
      simp only at h
      have ih := goL_ok r (i + 1) s' m
      unfold takeP at ht
      split at ht
      · next hk =>
        split at ht
        · next hp =>
          cases hpp : portP (x.drop (keyLen x)) with
          | none => rw [hpp] at ht; cases ht
          | some n =>
            rw [hpp] at ht
            simp only [Option.some.injEq] at ht
            subst ht
            obtain ⟨e1, e2, e3⟩ := portP_some hpp
            unfold goodS at hg
            rw [hp] at hg
            simp only at hg
            obtain ⟨v1, v2⟩ := ih ⟨⟨e2, e3⟩, hg⟩ h
            obtain ⟨w1, ext, w2, w3⟩ := v2
            simp only at w1 w2
            rw [hg, List.nil_append] at w2
            refine ⟨v1, ?_⟩
            unfold restW
            rw [hp]
            simp only
            rw [w3, w1, ← e1, ← take_key hk, w2]
        · cases ht
      next hk1 =>
      split at ht
      · next hk =>
        split at ht
        · next hp =>
          cases hpp : unhex (x.drop (keyLen x)) with
          | none => rw [hpp] at ht; cases ht
          | some t =>
            rw [hpp] at ht
            simp only at ht
            split at ht
            · next hn =>
              simp only [Option.some.injEq] at ht
              subst ht
              have e1 := hex_unhex _ hpp
              have hport : 1 ≤ s.port ∧ s.port ≤ 65535 := by
                unfold goodS at hg
                rcases hp with hp | hp
                · rw [hp] at hg; exact hg.1
                · rw [hp] at hg; exact hg.1
              obtain ⟨v1, v2⟩ := ih ⟨hport, hn⟩ h
              obtain ⟨w1, ext, w2, w3⟩ := v2
              simp only at w1 w2
              have hline : x = nameLn ⟨t.toArray⟩ := by
                rw [take_key hk, e1]
                rfl
              have key : m.port = s.port ∧ ∃ ext, m.names = s.names ++ ext ∧ x :: r = ext.map nameLn ++ [cookLn m.cookie, [], []] :=
                ⟨w1, ⟨t.toArray⟩ :: ext, by rw [w2, addN]; simp, by rw [w3, hline]; simp⟩
              refine ⟨v1, ?_⟩
              unfold restW
              rcases hp with hp | hp
              · rw [hp]; exact key
              · rw [hp]; exact key
            · cases ht
        · cases ht
      next hk2 =>
      split at ht
      · next hk =>
        split at ht
        · next hp =>
          split at ht
          · next hc =>
            simp only [Option.some.injEq] at ht
            subst ht
            unfold goodS at hg
            rw [hp] at hg
            simp only at hg
            obtain ⟨v1, v2⟩ := ih ⟨hg.1, hg.2, hc⟩ h
            obtain ⟨w1, w2⟩ := v2
            refine ⟨v1, ?_⟩
            unfold restW
            rw [hp]
            simp only
            rw [w2]
            refine ⟨rfl, [], by simp, ?_⟩
            rw [w1]
            have := take_key hk
            simp only [List.map_nil, List.nil_append, cookLn]
            rw [← this]
          · cases ht
        · cases ht
      · cases ht
theorem readP_ok {L : List (List UInt8)} {m : MsgV} (h : readP L = .ok m) : validM m = true ∧ L = linesW m := by
  unfold readP at h
  split at h
  · cases h
  · split at h
    · cases h
    · split at h
      · next hx =>
        obtain ⟨v1, v2⟩ := goL_ok _ 1 rd0 m rfl h
        refine ⟨v1, ?_⟩
        rw [linesW_eq, hx, v2]
      · cases h
/-! a valid message's lines are read -/
theorem key_port (t : List UInt8) : keyLen (portL ++ t) = 6 := rfl
theorem key_name (t : List UInt8) : keyLen (nameL ++ t) = 6 := rfl
theorem key_cook (t : List UInt8) : keyLen (cookL ++ t) = 8 := rfl
theorem take_port {s : RdS} (h : s.ph = 0) {n : Int} (h0 : 1 ≤ n) (h1 : n ≤ 65535) : takeP s (portL ++ Lib.itoa n) = some { s with port := n, ph := 1 } := by
  unfold takeP
  have e1 : (portL ++ Lib.itoa n).take 6 = portL := rfl
  have e2 : (portL ++ Lib.itoa n).drop 6 = Lib.itoa n := rfl
  have e3 : portP (Lib.itoa n) = some n := by
    unfold portP
    rw [atoi_itoaL (by omega) (by omega)]
    simp only
    rw [if_pos ⟨trivial, h0, h1⟩]
  rw [key_port, e1, e2, e3, if_pos rfl, if_pos h]
theorem take_name {s : RdS} (h : s.ph = 1 ∨ s.ph = 2) {n : ByteArray} (hn : namesB (s.names ++ [n]) = true) : takeP s (nameLn n) = some { s with names := s.names ++ [n], ph := 2 } := by
  unfold takeP nameLn
  have e1 : (nameL ++ hexOf n.data.toList).take 6 = nameL := rfl
  have e2 : (nameL ++ hexOf n.data.toList).drop 6 = hexOf n.data.toList := rfl
  have e3 : addN s.names n.data.toList = s.names ++ [n] := by rw [addN, bytes_back]
  rw [key_name, e1, e2, unhex_hex, if_neg (by decide), if_pos rfl, if_pos h]
  simp only
  rw [e3, if_pos hn]
theorem take_cook {s : RdS} (h : s.ph = 2) {c : ByteArray} (hc : cookieOk c = true) : takeP s (cookLn c) = some { s with cookie := c, ph := 3 } := by
  unfold takeP cookLn
  have e1 : (cookL ++ c.data.toList).take 8 = cookL := rfl
  have e2 : (cookL ++ c.data.toList).drop 8 = c.data.toList := rfl
  rw [key_cook, e1, e2, bytes_back, if_neg (by decide), if_neg (by decide), if_pos rfl, if_pos h, if_pos hc]
theorem go_names {p : Int} {c : ByteArray} (hc : cookieOk c = true) : ∀ (ext pre : List ByteArray) (i ph : Nat), namesB (pre ++ ext) = true → (ph = 1 ∧ pre = [] ∨ ph = 2 ∧ pre ≠ []) → goL (ext.map nameLn ++ [cookLn c, [], []]) i ⟨p, pre, ⟨#[]⟩, ph⟩ = .ok ⟨p, pre ++ ext, c⟩
  | [], pre, i, ph, hn, hp => by
    rw [List.append_nil] at hn ⊢
    have hp2 : ph = 2 := by
      rcases hp with ⟨-, q⟩ | ⟨q, -⟩
      · subst q; simp [namesB] at hn
      · exact q
    subst hp2
    rw [List.map_nil, List.nil_append, goL, if_neg (by simp), if_neg (by simp), take_cook rfl hc]
    simp only
    rw [goL, if_neg (by simp), if_pos ⟨rfl, rfl⟩, if_pos rfl]
  | n :: ext, pre, i, ph, hn, hp => by
    have e : pre ++ n :: ext = (pre ++ [n]) ++ ext := by simp
    rw [e] at hn ⊢
    have h1 := namesB_pre hn (by simp)
    have hx : nameLn n ≠ [] := by unfold nameLn nameL; simp
    rw [List.map_cons, List.cons_append, goL, if_neg (by simp), if_neg (fun q => hx q.1), take_name (s := ⟨p, pre, ⟨#[]⟩, ph⟩) (by rcases hp with ⟨q, -⟩ | ⟨q, -⟩; exact .inl q; exact .inr q) h1]
    simp only
    exact go_names hc ext (pre ++ [n]) (i + 1) 2 hn (.inr ⟨rfl, by simp⟩)
theorem readP_lines {m : MsgV} (h : validM m = true) : readP (linesW m) = .ok m := by
  obtain ⟨⟨h1, h2⟩, h3, h4⟩ := valid_parts h
  have hx : portL ++ Lib.itoa m.port ≠ [] := by unfold portL; simp
  rw [linesW_eq]
  unfold readP
  simp only
  rw [if_neg (by simp), if_pos trivial, goL, if_neg (by simp), if_neg (fun q => hx q.1), take_port rfl h1 h2]
  simp only
  exact go_names h4 m.names [] 2 1 h3 (.inl ⟨rfl, rfl⟩)
/-- What is read of a text. -/
def parseP (s : List UInt8) : Option MsgV := match readP (linesC s) with
  | .ok m => some m
  | .error _ => none
theorem parseP_iff {s : List UInt8} {m : MsgV} : parseP s = some m ↔ validM m = true ∧ s = writtenL m := by
  unfold parseP
  constructor
  · intro h
    split at h
    · next m' q =>
      injection h with h
      subst h
      obtain ⟨v1, v2⟩ := readP_ok q
      exact ⟨v1, written_of_lines v2⟩
    · cases h
  · rintro ⟨h1, rfl⟩
    rw [lines_written h1, readP_lines h1]
/-! ### the reference's reading -/
def wPort : List UInt8 := [80, 111, 114, 116]
def wName : List UInt8 := [78, 97, 109, 101]
def wCook : List UInt8 := [67, 111, 111, 107, 105, 101]
def unhexD (r : List UInt8) : List UInt8 := (unhex r).getD []
def cutW (l : List UInt8) : List UInt8 := (Lib.cut l [58, 32]).1
def cutR (l : List UInt8) : List UInt8 := (Lib.cut l [58, 32]).2.1
def stepQ (q : MsgV) (l : List UInt8) : MsgV :=
  if cutW l = wPort then { q with port := atoiV (cutR l) }
  else if cutW l = wName then { q with names := addN q.names (unhexD (cutR l)) }
  else if cutW l = wCook then { q with cookie := ⟨(cutR l).toArray⟩ }
  else q
def msg0 : MsgV := ⟨0, [], ⟨#[]⟩⟩
def foldQ (s : List UInt8) : MsgV := (linesC s).foldl stepQ msg0
def parseQ (s : List UInt8) : Option MsgV := if validM (foldQ s) = true ∧ s = writtenL (foldQ s) then some (foldQ s) else none
theorem step_first (q : MsgV) : stepQ q firstL = q := rfl
theorem step_nil (q : MsgV) : stepQ q [] = q := rfl
theorem step_port (q : MsgV) {n : Int} (h0 : 0 ≤ n) (h1 : n ≤ 200000) : stepQ q (portL ++ Lib.itoa n) = { q with port := n } := by
  have e1 : cutW (portL ++ Lib.itoa n) = wPort := rfl
  have e2 : cutR (portL ++ Lib.itoa n) = Lib.itoa n := rfl
  unfold stepQ
  rw [e1, e2, if_pos rfl, atoiV, atoi_itoaL h0 h1]
theorem step_name (q : MsgV) (n : ByteArray) : stepQ q (nameLn n) = { q with names := q.names ++ [n] } := by
  have e1 : cutW (nameLn n) = wName := rfl
  have e2 : cutR (nameLn n) = hexOf n.data.toList := rfl
  unfold stepQ
  rw [e1, e2, if_neg (by decide), if_pos rfl, unhexD, unhex_hex, addN]
  rfl
theorem step_cook (q : MsgV) (c : ByteArray) : stepQ q (cookLn c) = { q with cookie := c } := by
  have e1 : cutW (cookLn c) = wCook := rfl
  have e2 : cutR (cookLn c) = c.data.toList := rfl
  unfold stepQ
  rw [e1, e2, if_neg (by decide), if_neg (by decide), if_pos rfl, bytes_back]
theorem fold_names : ∀ (l : List ByteArray) (q : MsgV), (l.map nameLn).foldl stepQ q = { q with names := q.names ++ l }
  | [], q => by simp
  | n :: l, q => by
    rw [List.map_cons, List.foldl_cons, step_name, fold_names l]
    simp
theorem fold_lines {m : MsgV} (h : validM m = true) : (linesW m).foldl stepQ msg0 = m := by
  obtain ⟨⟨h1, h2⟩, h3, h4⟩ := valid_parts h
  rw [linesW_eq, List.foldl_cons, List.foldl_cons, step_first, step_port _ (by omega) (by omega), List.foldl_append, fold_names]
  simp only [List.foldl_cons, List.foldl_nil, step_cook, step_nil]
  rfl
theorem parseQ_iff {s : List UInt8} {m : MsgV} : parseQ s = some m ↔ validM m = true ∧ s = writtenL m := by
  unfold parseQ
  constructor
  · intro h
    split at h
    · next q =>
      injection h with h
      rw [← h]
      exact q
    · cases h
  · rintro ⟨h1, rfl⟩
    have e : foldQ (writtenL m) = m := by
      unfold foldQ
      rw [lines_written h1, fold_lines h1]
    rw [e, if_pos ⟨h1, rfl⟩]
theorem parse_same (s : List UInt8) : parseQ s = parseP s := by
  cases h : parseP s with
  | some m => exact parseQ_iff.2 (parseP_iff.1 h)
  | none =>
    cases h2 : parseQ s with
    | none => rfl
    | some m =>
      rw [parseP_iff.2 (parseQ_iff.1 h2)] at h
      cases h
end Go.Proofs.YtecjdppkpfpniaaGreatDoor
