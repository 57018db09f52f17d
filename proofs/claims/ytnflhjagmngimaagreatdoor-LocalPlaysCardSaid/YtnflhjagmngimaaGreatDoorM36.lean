/-
  Several texts in one, in their build order. The program's crier and the reference's, in plain words: what makes them alike, and what each deed keeps of it. Plain Lean over what the walks show. No condition but those of the lemmas.
-/
import Derived.Test.YtnflhjagmngimaaGreatDoorM18
import Derived.Test.YtnflhjagmngimaaGreatDoorM27
import Derived.Test.YtnflhjagmngimaaGreatDoorM32
import Derived.Test.YtnflhjagmngimaaGreatDoorM35
namespace Go.Proofs.YtnflhjagmngimaaGreatDoor
set_option linter.unusedSimpArgs false
set_option linter.unusedVariables false
open Go.RowKit

def ascP (x y : ByteArray × Int) : Prop := Op.bytesLess x.1.toList y.1.toList = true
theorem tl_data (a : ByteArray) : a.toList = a.data.toList := ByteArray.toList_eq a
theorem lessB_iff {a b : ByteArray} : Op.bytesLess a.toList b.toList = true ↔ a.data.toList < b.data.toList := by
  rw [tl_data, tl_data, bless_lt, decide_eq_true_eq]
theorem ba_eqL {a b : ByteArray} (h : a.data.toList = b.data.toList) : a = b := ba_eq (Array.toList_inj.1 h)
theorem ascP_trans {x y z : ByteArray × Int} (h1 : ascP x y) (h2 : ascP y z) : ascP x z := by
  unfold ascP at *
  rw [lessB_iff] at *
  exact List.lt_trans h1 h2
theorem ascP_ne {x y : ByteArray × Int} (h : ascP x y) : x.1 ≠ y.1 := by
  unfold ascP at h
  rw [lessB_iff] at h
  intro q
  rw [q] at h
  exact List.lt_irrefl _ h
/-- Both criers know the same. -/
structure Alk (c : CrV) (r : RcV) : Prop where
  cook : r.cook = c.cookie
  port : r.port = c.port
  every : r.every = c.every
  now : r.now = c.now
  sent : (r.ever = true ∧ c.sent = r.sent ∧ 0 ≤ r.sent) ∨ (r.ever = false ∧ c.sent = -1)
  asc : r.all.Pairwise ascP
  names : ∀ k, k ∈ c.all ↔ k ∈ r.all.map (·.1)
  nod : c.all.Nodup
  last : ∀ x ∈ r.all, x.2 = c.last x.1
  cnt : ∀ ip, ((cntP r.heard ip c.min : Nat) : Int) = c.heard ip
  mins : ∀ x ∈ r.heard, x.2 ≤ c.min
theorem asc_nodup {U : List (ByteArray × Int)} (h : U.Pairwise ascP) : (U.map (·.1)).Nodup := List.pairwise_map.2 (h.imp (fun q => ascP_ne q))
theorem Alk.perm {c : CrV} {r : RcV} (h : Alk c r) : (r.all.map (·.1)).Perm c.all := (List.perm_ext_iff_of_nodup (asc_nodup h.asc) h.nod).2 (fun k => (h.names k).symm)
theorem Alk.len {c : CrV} {r : RcV} (h : Alk c r) : r.all.length = c.all.length := by
  have := h.perm.length_eq
  rwa [List.length_map] at this
theorem idx_in {U : List (ByteArray × Int)} {k : ByteArray} : 0 ≤ idxP U k ↔ k ∈ U.map (·.1) := by
  constructor
  · intro h
    unfold idxP at h
    split at h
    · next hlt =>
      have h2 := List.findIdx_getElem (p := fun x : ByteArray × Int => x.1.data == k.data) (w := hlt)
      have h3 : U[List.findIdx (fun x : ByteArray × Int => x.1.data == k.data) U].1 = k := ba_eq (by simpa using h2)
      rw [← h3]
      exact List.mem_map.2 ⟨_, List.getElem_mem hlt, rfl⟩
    · omega
  · intro h
    obtain ⟨x, hx, rfl⟩ := List.mem_map.1 h
    unfold idxP
    rw [if_pos (List.findIdx_lt_length_of_exists ⟨x, hx, by simp⟩)]
    omega
theorem idx_get {U : List (ByteArray × Int)} {k : ByteArray} {i : Nat} (h : idxP U k = i) : ∃ hi : i < U.length, U[i].1 = k := by
  unfold idxP at h
  split at h
  · next hlt =>
    obtain rfl : List.findIdx (fun x : ByteArray × Int => x.1.data == k.data) U = i := by omega
    have h2 := List.findIdx_getElem (p := fun x : ByteArray × Int => x.1.data == k.data) (w := hlt)
    exact ⟨hlt, ba_eq (by simpa using h2)⟩
  · omega
theorem Alk.inB {c : CrV} {r : RcV} (h : Alk c r) (k : ByteArray) : inB c.all k = decide (0 ≤ idxP r.all k) := by
  by_cases g : 0 ≤ idxP r.all k
  · rw [decide_eq_true g, inB_iff, h.names]; exact idx_in.1 g
  · rw [decide_eq_false g, inB_no, h.names]; exact fun q => g (idx_in.2 q)
theorem Alk.addE {c : CrV} {r : RcV} (h : Alk c r) (ho : CrOk c) (k : ByteArray) (priv : Bool) : c.addE k priv = r.addE k priv := by
  unfold CrV.addE RcV.addE
  rw [h.inB, h.len]
  have := ho.few
  by_cases g : 0 ≤ idxP r.all k
  · simp [g]
  · by_cases g2 : c.all.length = 200
    · simp [g, g2]
    · have g3 : ¬ 200 ≤ c.all.length := by omega
      simp [g, g2, g3]
/-- A name put in its place keeps the order. -/
theorem insP_asc {U : List (ByteArray × Int)} {n : ByteArray} (h : U.Pairwise ascP) (hn : n ∉ U.map (·.1)) : (insP U n).Pairwise ascP := by
  unfold insP
  have hsp : U.takeWhile (lessP n) ++ U.dropWhile (lessP n) = U := List.takeWhile_append_dropWhile
  have hp := h
  rw [← hsp, List.pairwise_append] at hp
  obtain ⟨p1, p2, p3⟩ := hp
  have hl : ∀ x ∈ U.takeWhile (lessP n), ascP x (n, -1) := fun x hx => by
    have := mem_tw hx
    exact this
  have hr : ∀ y ∈ U.dropWhile (lessP n), ascP (n, -1) y := by
    intro y hy
    have hmem : ∀ z ∈ U.dropWhile (lessP n), z.1 ≠ n := fun z hz q => hn (by
      rw [← q]
      exact List.mem_map.2 ⟨z, by rw [← hsp]; exact List.mem_append_right _ hz, rfl⟩)
    cases hd : U.dropWhile (lessP n) with
    | nil => rw [hd] at hy; cases hy
    | cons z D =>
      have hz : lessP n z = false := by
        have := List.head_dropWhile_not (p := lessP n) (l := U) (by rw [hd]; simp)
        simpa [hd] using this
      have hzn : z.1 ≠ n := hmem z (by rw [hd]; simp)
      have hnz : ascP (n, -1) z := by
        unfold lessP at hz
        unfold ascP
        rw [lessB_iff]
        have h1 : ¬ z.1.data.toList < n.data.toList := fun q => by rw [lessB_iff.2 q] at hz; cases hz
        rcases Decidable.em (n.data.toList < z.1.data.toList) with q | q
        · exact q
        · exact absurd (ba_eqL (List.le_antisymm (List.not_lt.1 q) (List.not_lt.1 h1))) hzn
      rw [hd] at hy p2
      rcases List.mem_cons.1 hy with rfl | hy
      · exact hnz
      · exact ascP_trans hnz ((List.pairwise_cons.1 p2).1 y hy)
  rw [List.pairwise_append]
  refine ⟨p1, List.pairwise_cons.2 ⟨hr, p2⟩, fun a ha b hb => ?_⟩
  rcases List.mem_cons.1 hb with rfl | hb
  · exact hl a ha
  · exact p3 a ha b hb
theorem mem_insP {U : List (ByteArray × Int)} {n : ByteArray} {x : ByteArray × Int} : x ∈ insP U n ↔ x = (n, -1) ∨ x ∈ U := by
  unfold insP
  have hsp : U.takeWhile (lessP n) ++ U.dropWhile (lessP n) = U := List.takeWhile_append_dropWhile
  conv => rhs; rw [← hsp]
  simp only [List.mem_append, List.mem_cons]
  constructor
  · rintro (h | h | h)
    · exact .inr (.inl h)
    · exact .inl h
    · exact .inr (.inr h)
  · rintro (h | h | h)
    · exact .inr (.inl h)
    · exact .inl h
    · exact .inr (.inr h)
theorem insP_len (U : List (ByteArray × Int)) (n : ByteArray) : (insP U n).length = U.length + 1 := by
  unfold insP
  have hsp : U.takeWhile (lessP n) ++ U.dropWhile (lessP n) = U := List.takeWhile_append_dropWhile
  have := congrArg List.length hsp
  rw [List.length_append] at this
  rw [List.length_append, List.length_cons]
  omega
theorem Alk.add {c : CrV} {r : RcV} (h : Alk c r) {k : ByteArray} {priv : Bool} (hk : c.addE k priv = 0) : Alk (c.addC k) (r.addC k) := by
  obtain ⟨-, -, hno, -⟩ := CrV.add_yes hk
  have hno2 : k ∉ c.all := inB_no.1 hno
  have hno3 : k ∉ r.all.map (·.1) := fun q => hno2 ((h.names k).2 q)
  refine ⟨h.cook, h.port, h.every, h.now, h.sent, insP_asc h.asc hno3, fun x => ?_, ?_, fun x hx => ?_, h.cnt, h.mins⟩
  · show x ∈ c.all ++ [k] ↔ x ∈ (insP r.all k).map (·.1)
    rw [List.mem_append, List.mem_singleton, List.mem_map, h.names, List.mem_map]
    constructor
    · rintro (⟨y, hy, rfl⟩ | rfl)
      · exact ⟨y, mem_insP.2 (.inr hy), rfl⟩
      · exact ⟨_, mem_insP.2 (.inl rfl), rfl⟩
    · rintro ⟨y, hy, rfl⟩
      rcases mem_insP.1 hy with rfl | hy
      · exact .inr rfl
      · exact .inl ⟨y, hy, rfl⟩
  · show (c.all ++ [k]).Nodup
    rw [List.nodup_append]
    exact ⟨h.nod, by simp, fun a ha b hb q => by rw [List.mem_singleton.1 hb] at q; exact hno2 (q ▸ ha)⟩
  · rcases mem_insP.1 hx with rfl | hx
    · exact (upd_self _ _ _).symm
    · show x.2 = upd c.last k (-1) x.1
      rw [upd_other _ _ (fun q => hno3 (by rw [← q]; exact List.mem_map.2 ⟨x, hx, rfl⟩)), h.last x hx]
theorem RcOk.add {r : RcV} (ho : RcOk r) (ha : r.all.Pairwise ascP) {k : ByteArray} {priv : Bool} (hk : r.addE k priv = 0) : RcOk (r.addC k) := by
  have h2 := radd_yes hk
  have hno3 : k ∉ r.all.map (·.1) := fun q => by have := idx_in.2 q; omega
  refine ⟨ho.now, ho.cook, ho.port, ho.every, ho.sent, ?_, fun x hx => ?_, fun x hx => ?_, asc_nodup (insP_asc ha hno3), ho.many⟩
  · show (insP r.all k).length ≤ 200
    rw [insP_len]; omega
  · rcases mem_insP.1 hx with rfl | hx
    · exact h2.1
    · exact ho.size x hx
  · rcases mem_insP.1 hx with rfl | hx
    · exact ⟨by show (-1 : Int) ≤ -1; omega, by show (-1 : Int) ≤ _; omega⟩
    · exact ho.last x hx
/-- What Drop answers and leaves (the program). -/
def CrV.dropE (c : CrV) (k : ByteArray) : Int := if k.size = 20 then (if inB c.all k then 0 else 8) else 1
def CrV.dropC (c : CrV) (k : ByteArray) : CrV := { c with all := c.all.filter (fun x => !(x.data == k.data)), last := upd c.last k 0 }
theorem CrV.drop_yes {c : CrV} {k : ByteArray} (h : c.dropE k = 0) : k.size = 20 ∧ k ∈ c.all := by
  unfold CrV.dropE at h
  split at h
  · next h1 =>
    split at h
    · next h2 => exact ⟨h1, inB_iff.1 h2⟩
    · cases h
  · cases h
theorem Alk.dropE {c : CrV} {r : RcV} (h : Alk c r) (k : ByteArray) : c.dropE k = r.dropE k := by
  unfold CrV.dropE RcV.dropE
  rw [h.inB]
  by_cases g : 0 ≤ idxP r.all k
  · have g2 : ¬ idxP r.all k < 0 := by omega
    simp [g, g2]
  · have g2 : idxP r.all k < 0 := by omega
    simp [g, g2]
theorem mem_dropC {c : CrV} {k x : ByteArray} : x ∈ (c.dropC k).all ↔ x ∈ c.all ∧ x ≠ k := by
  show x ∈ c.all.filter (fun x => !(x.data == k.data)) ↔ _
  rw [List.mem_filter]
  constructor
  · rintro ⟨h1, h2⟩
    refine ⟨h1, fun q => ?_⟩
    rw [q] at h2
    simp at h2
  · rintro ⟨h1, h2⟩
    refine ⟨h1, ?_⟩
    have : ¬ x.data = k.data := fun q => h2 (ba_eq q)
    simpa using this
theorem Alk.drop {c : CrV} {r : RcV} (h : Alk c r) {k : ByteArray} (hk : c.dropE k = 0) : Alk (c.dropC k) (r.dropC k) := by
  obtain ⟨-, hin⟩ := CrV.drop_yes hk
  obtain ⟨i, hi⟩ : ∃ i : Nat, idxP r.all k = i := by
    have := idx_in.2 ((h.names k).1 hin)
    exact ⟨(idxP r.all k).toNat, by omega⟩
  obtain ⟨hil, hik⟩ := idx_get hi
  have hall : (r.dropC k).all = r.all.eraseIdx i := by unfold RcV.dropC; rw [hi]; rfl
  have hsub : (r.all.eraseIdx i).Sublist r.all := List.eraseIdx_sublist ..
  have hother : ∀ x ∈ r.all.eraseIdx i, x.1 ≠ k := by
    intro x hx q
    obtain ⟨j, hj, hjx⟩ := List.getElem_of_mem hx
    rw [List.getElem_eraseIdx] at hjx
    have hn := List.pairwise_iff_getElem.1 h.asc
    rw [List.length_eraseIdx, if_pos hil] at hj
    split at hjx
    · next hlt => exact ascP_ne (hn j i (by omega) hil hlt) (by rw [hjx, q, hik])
    · next hlt => exact ascP_ne (hn i (j + 1) hil (by omega) (by omega)) (by rw [hjx, q, hik])
  have hmem : ∀ x ∈ r.all, x.1 ≠ k → x ∈ r.all.eraseIdx i := by
    intro x hx hne
    obtain ⟨j, hj, rfl⟩ := List.getElem_of_mem hx
    have hji : j ≠ i := fun q => hne (by subst q; exact hik)
    rw [List.mem_iff_getElem]
    by_cases hlt : j < i
    · exact ⟨j, by rw [List.length_eraseIdx, if_pos hil]; omega, by rw [List.getElem_eraseIdx, dif_pos hlt]⟩
    · obtain ⟨d, rfl⟩ : ∃ d, j = d + 1 := ⟨j - 1, by omega⟩
      exact ⟨d, by rw [List.length_eraseIdx, if_pos hil]; omega, by rw [List.getElem_eraseIdx, dif_neg (by omega)]⟩
  refine ⟨h.cook, h.port, h.every, h.now, h.sent, by rw [hall]; exact h.asc.sublist hsub, fun x => ?_, h.nod.sublist List.filter_sublist, fun x hx => ?_, h.cnt, h.mins⟩
  · rw [mem_dropC, h.names, hall, List.mem_map, List.mem_map]
    constructor
    · rintro ⟨⟨y, hy, rfl⟩, hne⟩
      exact ⟨y, hmem y hy hne, rfl⟩
    · rintro ⟨y, hy, rfl⟩
      exact ⟨⟨y, hsub.subset hy, rfl⟩, hother y hy⟩
  · rw [hall] at hx
    show x.2 = upd c.last k 0 x.1
    rw [upd_other _ _ (hother x hx), h.last x (hsub.subset hx)]
theorem RcOk.drop {r : RcV} (ho : RcOk r) (k : ByteArray) : RcOk (r.dropC k) := by
  have hsub : ((r.dropC k).all).Sublist r.all := List.eraseIdx_sublist ..
  exact ⟨ho.now, ho.cook, ho.port, ho.every, ho.sent, Nat.le_trans hsub.length_le ho.few, fun x hx => ho.size x (hsub.subset hx), fun x hx => ho.last x (hsub.subset hx), ho.names.sublist (hsub.map _), ho.many⟩
theorem CrOk.drop {c : CrV} (ho : CrOk c) (k : ByteArray) : CrOk (c.dropC k) := by
  refine ⟨ho.now, ho.cook, ho.port, ho.every, ho.sent, Nat.le_trans (List.length_filter_le _ _) ho.few, fun x hx => ho.size x (mem_dropC.1 hx).1, fun x => ?_, ho.min⟩
  show -1 ≤ upd c.last k 0 x ∧ upd c.last k 0 x ≤ _
  unfold upd
  split
  · omega
  · exact ho.last x
theorem Alk.atE {c : CrV} {r : RcV} (h : Alk c r) (t : Int) : c.atE t = r.atE t := by unfold CrV.atE RcV.atE; rw [h.now]
theorem Alk.lastE {c : CrV} {r : RcV} (h : Alk c r) (k : ByteArray) : c.lastE k = r.lastE k ∧ c.lastR k = r.lastR k := by
  have hE : c.lastE k = r.lastE k ∧ (k.size = 20 → 0 ≤ idxP r.all k → (r.all.getD (idxP r.all k).toNat (⟨#[]⟩, -1)).2 = c.last k) := by
    unfold CrV.lastE RcV.lastE
    rw [h.inB]
    by_cases g : 0 ≤ idxP r.all k
    · obtain ⟨i, hi⟩ : ∃ i : Nat, idxP r.all k = i := ⟨(idxP r.all k).toNat, by omega⟩
      obtain ⟨hil, hik⟩ := idx_get hi
      have hv : (r.all.getD (idxP r.all k).toNat (⟨#[]⟩, -1)).2 = c.last k := by
        rw [hi]
        simp only [Int.toNat_natCast, List.getD_eq_getElem?_getD, List.getElem?_eq_getElem hil, Option.getD_some]
        rw [h.last _ (List.getElem_mem hil), hik]
      rw [hv]
      refine ⟨?_, fun _ _ => rfl⟩
      by_cases g3 : 0 ≤ c.last k
      · have g4 : ¬ (idxP r.all k < 0 ∨ c.last k < 0) := by omega
        simp [g, g3, g4]
      · have g4 : (idxP r.all k < 0 ∨ c.last k < 0) := by omega
        simp [g, g3, g4]
    · have g2 : idxP r.all k < 0 := by omega
      refine ⟨?_, fun _ q => absurd q g⟩
      simp [g, g2]
  refine ⟨hE.1, ?_⟩
  unfold CrV.lastR RcV.lastR
  rw [hE.1]
  by_cases g : r.lastE k = 0
  · rw [if_pos g, if_pos g]
    unfold RcV.lastE at g
    split at g
    · next hs =>
      split at g
      · cases g
      · next h2 => rw [hE.2 hs (by omega)]
    · cases g
  · rw [if_neg g, if_neg g]
theorem Alk.sorted {c : CrV} {r : RcV} (h : Alk c r) : sortB c.all = r.all.map (·.1) := by
  refine sort_eq h.perm ?_
  rw [List.pairwise_map]
  refine h.asc.imp (fun q => ?_)
  unfold ascP at q
  rw [lessB_iff] at q
  simp only [leY, decide_eq_true_eq]
  exact List.le_of_lt q
/-- The time turns alike. -/
theorem Alk.turn {c : CrV} {r : RcV} (h : Alk c r) (hm : 0 ≤ c.min) {t : Int} (hle : c.now ≤ t) (hmn : c.min ≤ t / 60000) : Alk (c.turnC t) { r with now := t } := by
  unfold CrV.turnC
  by_cases g : t / 60000 = c.min
  · rw [if_pos g]
    exact ⟨h.cook, h.port, h.every, rfl, h.sent, h.asc, h.names, h.nod, h.last, h.cnt, h.mins⟩
  · rw [if_neg g]
    refine ⟨h.cook, h.port, h.every, rfl, h.sent, h.asc, h.names, h.nod, h.last, fun ip => ?_, fun x hx => ?_⟩
    · show ((cntP r.heard ip (t / 60000) : Nat) : Int) = 0
      unfold cntP
      have : (r.heard.filter fun x => x.1.data == ip.data && x.2 == t / 60000) = [] := by
        rw [List.filter_eq_nil_iff]
        intro x hx q
        have h1 := h.mins x hx
        simp only [Bool.and_eq_true, beq_iff_eq] at q
        omega
      rw [this]
      rfl
    · show x.2 ≤ t / 60000
      have := h.mins x hx
      omega
theorem Alk.clock {c : CrV} {r : RcV} (h : Alk c r) (t : Int) : Alk { c with now := t } { r with now := t } :=
  ⟨h.cook, h.port, h.every, rfl, h.sent, h.asc, h.names, h.nod, h.last, h.cnt, h.mins⟩
theorem RcOk.clock {r : RcV} (ho : RcOk r) {t : Int} (h1 : r.now ≤ t) (h2 : t ≤ 1000000000) : RcOk { r with now := t } :=
  ⟨⟨by have := ho.now; show 0 ≤ t; omega, h2⟩, ho.cook, ho.port, ho.every, ho.sent, ho.few, ho.size, ho.last, ho.names, ho.many⟩
theorem Alk.heard {c : CrV} {r : RcV} (h : Alk c r) (hm : 0 ≤ c.min) {t : Int} (hle : c.now ≤ t) (hmn : c.min ≤ t / 60000) (ip : ByteArray) : (c.turnC t).heard ip = ((cntP r.heard ip (t / 60000) : Nat) : Int) := by
  have h2 := (h.turn hm hle hmn).cnt ip
  rw [← h2]
  have : (c.turnC t).min = t / 60000 := by
    unfold CrV.turnC
    split
    · next g => exact g.symm
    · rfl
  rw [this]
end Go.Proofs.YtnflhjagmngimaaGreatDoor
