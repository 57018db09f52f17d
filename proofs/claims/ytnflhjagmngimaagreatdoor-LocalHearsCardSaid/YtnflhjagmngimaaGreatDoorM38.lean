/-
  Several texts in one, in their build order. What is heard, in plain words: a message of sorted names is valid; what a fresh crier tells first; the names that both have. Plain Lean over what Tell's walk shows. No condition but those of the lemmas. The walk of the reference's Ordered over a list of its own, each text once. Conditions: the list lies as told.
-/
import Derived.Test.YtnflhjagmngimaaGreatDoorM37
import Derived.Test.YtnflhjagmngimaaGreatDoorM31
namespace Go.Proofs.YtnflhjagmngimaaGreatDoor
set_option linter.unusedSimpArgs false
set_option linter.unusedVariables false
open Go.RowKit

theorem bless_lt : ∀ (x y : List UInt8), Op.bytesLess x y = decide (x < y)
  | [], [] => by simp [Op.bytesLess]
  | _ :: _, [] => by simp [Op.bytesLess]
  | [], _ :: _ => by simp [Op.bytesLess]
  | a :: x, b :: y => by
    rw [Op.bytesLess, bless_lt x y]
    simp only [List.cons_lt_cons_iff]
    by_cases h1 : a < b <;> by_cases h2 : a = b <;> by_cases h3 : x < y <;> simp [h1, h2, h3]
def leY (x y : List UInt8) : Bool := decide (x ≤ y)
theorem leY_trans (a b c : List UInt8) (h1 : leY a b = true) (h2 : leY b c = true) : leY a c = true := by
  simp only [leY, decide_eq_true_eq] at *; exact List.le_trans h1 h2
theorem leY_total (a b : List UInt8) : (leY a b || leY b a) = true := by
  simp only [leY, Bool.or_eq_true, decide_eq_true_eq]; exact List.le_total a b
theorem leY_anti {a b : List UInt8} (h1 : leY a b = true) (h2 : leY b a = true) : a = b := by
  simp only [leY, decide_eq_true_eq] at *; exact List.le_antisymm h1 h2
theorem bytes_sort (l : List ByteArray) : bytesOf (sortB l) = (bytesOf l).mergeSort leY := by
  unfold sortB bytesOf ofBytes
  rw [List.map_map]
  exact (List.map_congr_left (fun x _ => by simp)).trans (List.map_id _)
theorem bytes_inj {l l' : List ByteArray} (h : bytesOf l = bytesOf l') : l = l' := by rw [← of_bytes l, ← of_bytes l', h]
theorem sort_pair (l : List ByteArray) : (sortB l).Pairwise fun x y => leY x.data.toList y.data.toList = true := by
  have h := List.pairwise_mergeSort leY_trans leY_total (bytesOf l)
  rw [← bytes_sort] at h
  unfold bytesOf at h
  exact List.pairwise_map.1 h
theorem sort_eq {l l' : List ByteArray} (hp : l.Perm l') (hs : l.Pairwise fun x y => leY x.data.toList y.data.toList = true) : sortB l' = l := by
  refine List.Perm.eq_of_pairwise (le := fun x y : ByteArray => leY x.data.toList y.data.toList = true) (fun a b _ _ h1 h2 => ?_) (sort_pair l') hs ((sortB_perm l').trans hp.symm)
  have := leY_anti h1 h2
  exact ba_eq (by cases ha : a.data; cases hb : b.data; rw [ha, hb] at this; simp at this; rw [this])
theorem lt_of_le_ne {x y : List UInt8} (h : leY x y = true) (hne : x ≠ y) : Op.bytesLess x y = true := by
  rw [bless_lt, decide_eq_true_eq]
  simp only [leY, decide_eq_true_eq] at h
  rcases Decidable.em (x < y) with q | q
  · exact q
  · exact absurd (List.le_antisymm h (List.not_lt.1 q)) hne
/-- Names in order, each once, are names. -/
theorem names_sorted {l : List ByteArray} (hs : l.Pairwise fun x y => leY x.data.toList y.data.toList = true) (hn : l.Nodup) (hz : ∀ k ∈ l, k.size = 20) (h1 : 1 ≤ l.length) (h2 : l.length ≤ 20) : namesB l = true := by
  unfold namesB
  rw [decide_eq_true h1, decide_eq_true h2, Bool.and_true, Bool.and_true, List.all_eq_true]
  intro i hi
  have hil : i < l.length := List.mem_range.1 hi
  unfold nameAt
  rw [List.getElem?_eq_getElem hil]
  simp only
  rw [decide_eq_true (hz _ (List.getElem_mem hil)), Bool.true_and]
  cases i with
  | zero => rfl
  | succ j =>
    have hjl : j < l.length := by omega
    simp only
    rw [List.getElem?_eq_getElem hjl]
    simp only
    rw [ByteArray.toList_eq, ByteArray.toList_eq]
    refine lt_of_le_ne (List.pairwise_iff_getElem.1 hs j (j + 1) hjl hil (by omega)) (fun q => ?_)
    have hd := List.pairwise_iff_getElem.1 hn j (j + 1) hjl hil (by omega)
    exact hd (ba_eq (by cases ha : l[j].data; cases hb : l[j + 1].data; rw [ha, hb] at q; simp at q; rw [q]))
theorem names_pair {l : List ByteArray} (h : namesB l = true) : l.Pairwise fun x y => leY x.data.toList y.data.toList = true := by
  unfold namesB at h
  simp only [Bool.and_eq_true, List.all_eq_true, decide_eq_true_eq] at h
  have hstep : ∀ j (hj : j + 1 < l.length), leY l[j].data.toList l[j + 1].data.toList = true := by
    intro j hj
    have := h.1.1 (j + 1) (List.mem_range.2 hj)
    unfold nameAt at this
    rw [List.getElem?_eq_getElem hj] at this
    simp only at this
    rw [List.getElem?_eq_getElem (by omega : j < l.length)] at this
    simp only [Bool.and_eq_true] at this
    have h2 := this.2
    rw [ByteArray.toList_eq, ByteArray.toList_eq, bless_lt, decide_eq_true_eq] at h2
    simp only [leY, decide_eq_true_eq]
    exact List.le_of_lt h2
  rw [List.pairwise_iff_getElem]
  intro i j hi hj hij
  obtain ⟨d, rfl⟩ : ∃ d, j = i + 1 + d := ⟨j - (i + 1), by omega⟩
  clear hij
  induction d with
  | zero => exact hstep i hj
  | succ d ih => exact leY_trans _ _ _ (ih (by omega)) (hstep (i + 1 + d) hj)
theorem names_nodup {l : List ByteArray} (h : namesB l = true) : l.Nodup := by
  unfold namesB at h
  simp only [Bool.and_eq_true, List.all_eq_true, decide_eq_true_eq] at h
  have hstep : ∀ j (hj : j + 1 < l.length), l[j].data.toList < l[j + 1].data.toList := by
    intro j hj
    have := h.1.1 (j + 1) (List.mem_range.2 hj)
    unfold nameAt at this
    rw [List.getElem?_eq_getElem hj] at this
    simp only at this
    rw [List.getElem?_eq_getElem (by omega : j < l.length)] at this
    simp only [Bool.and_eq_true] at this
    have h2 := this.2
    rwa [ByteArray.toList_eq, ByteArray.toList_eq, bless_lt, decide_eq_true_eq] at h2
  have hlt : ∀ i j (hi : i < l.length) (hj : j < l.length), i < j → l[i].data.toList < l[j].data.toList := by
    intro i j hi hj hij
    obtain ⟨d, rfl⟩ : ∃ d, j = i + 1 + d := ⟨j - (i + 1), by omega⟩
    clear hij
    induction d with
    | zero => exact hstep i hj
    | succ d ih => exact List.lt_trans (ih (by omega)) (hstep (i + 1 + d) hj)
  refine List.pairwise_iff_getElem.2 (fun i j hi hj hij q => ?_)
  have := hlt i j hi hj hij
  rw [q] at this
  exact List.lt_irrefl _ this
theorem valid_sort {c : CrV} (ho : CrOk c) {l : List ByteArray} (hn : l.Nodup) (hz : ∀ k ∈ l, k.size = 20) (h1 : 1 ≤ l.length) (h2 : l.length ≤ 20) : validM ⟨c.port, sortB l, c.cookie⟩ = true := by
  have hp := ho.port
  have hq := sortB_perm l
  unfold validM
  simp only
  rw [decide_eq_true hp.1, decide_eq_true hp.2, ho.cook.1, names_sorted (sort_pair l) (hq.symm.nodup hn) (fun k hk => hz k (hq.mem_iff.1 hk)) (by rw [sortB_len]; exact h1) (by rw [sortB_len]; exact h2)]
  rfl
/-- A fresh crier tells all its names, or none if it has none. -/
theorem tell_first {w w' : World} {B M H : Nat} {c : CrV} {every : Int} {e : Ending} (h : TellPost w B M H c 0 e w') (hf : FreshC c every) (hn : c.all.Nodup) (hl : c.all.length ≤ 15) :
    (c.all = [] ∧ e = .returned (.tuple #[.string ⟨#[]⟩, .int .i64 8]) ∧ New w w') ∨
    (c.all ≠ [] ∧ validM ⟨c.port, sortB c.all, c.cookie⟩ = true ∧ e = .returned (.tuple #[.string (mkB (writtenL ⟨c.port, sortB c.all, c.cookie⟩)), .int .i64 0]) ∧ CrAt w' B M H (c.tellC 0 (sortB c.all)) ∧ Mod (fun k => k = B ∨ k = M) w w') := by
  obtain ⟨U, T, rest, N, hU, hp, hw, hN, hv, hd, hs, hc⟩ := h
  have ho := hf.ok
  have hUn : U.Nodup := hp.symm.nodup hn
  have hrest : rest = [] := by
    cases rest with
    | nil => rfl
    | cons s r =>
      exfalso
      have hsm : s ∈ c.all := hp.mem_iff.1 (by rw [hU]; simp)
      rcases hs s r rfl with q | q
      · rw [hf.last s hsm] at q
        simp [dueT] at q
      · have hpn : (N ++ [s]).Perm (T ++ [s]) := hN.append_right [s]
        have hsub : (T ++ [s]).Sublist U := by
          rw [hU]
          exact (List.Sublist.refl T).append ((List.nil_sublist r).cons_cons s)
        have hlen := hsub.length_le
        have hll := hp.length_eq
        rw [valid_sort ho (hpn.symm.nodup (hsub.nodup hUn)) (fun k hk => ho.size k (hp.mem_iff.1 (hsub.subset (hpn.mem_iff.1 hk)))) (by simp) (by rw [hpn.length_eq]; omega)] at q
        cases q
  subst hrest
  rw [List.append_nil] at hU
  subst hU
  rcases hc with ⟨q, he, hn2⟩ | ⟨hT, -, he, hcr, hm⟩
  · rcases q with q | q
    · subst q
      exact .inl ⟨by have := hp.symm.eq_nil; exact this, he, hn2⟩
    · have := hf.sent
      omega
  · have hvN : validM ⟨c.port, N, c.cookie⟩ = true := by
      rcases hv with q | q
      · exact absurd q hT
      · exact q
    have hnN : namesB N = true := (valid_parts hvN).2.1
    have hNe : sortB c.all = N := sort_eq (hN.trans hp) (names_pair hnN)
    rw [hNe]
    exact .inr ⟨fun q => hT (by rw [q] at hp; exact hp.eq_nil), hvN, he, hcr, hm⟩
/-- The names that both have, in order. -/
theorem both_sort {l d own : List ByteArray} (hl : l = sortB own) (hn : own.Nodup) (hd : d.Nodup) : sortB (d.filter (inB own)) = l.filter (inB d) := by
  subst hl
  have hq := sortB_perm own
  refine sort_eq ?_ ((sort_pair own).sublist List.filter_sublist)
  refine (List.perm_ext_iff_of_nodup ((hq.symm.nodup hn).sublist List.filter_sublist) (hd.sublist List.filter_sublist)).2 (fun x => ?_)
  rw [List.mem_filter, List.mem_filter, inB_iff, inB_iff, hq.mem_iff]
  exact And.comm
end Go.Proofs.YtnflhjagmngimaaGreatDoor

namespace Go.Proofs.YtnflhjagmngimaaGreatDoor
set_option linter.unusedSimpArgs false
set_option linter.unusedVariables false
open Go.RowKit Go.Shelf Go.Sort

theorem sortT_fine (base : Nat) (v : Value) (l : List ByteArray) (w : World) (h : OwnT w base v l) (hl : l.length ≤ 1000000) :
    Calls Tryz.prog 40 #[v] w fun e w' => e = .returned (.tuple #[]) ∧
      ∃ (a : Option Addr) (cap : Nat), v = .slice a (sortB l).length cap ∧ StrsAt w' a cap (sortB l) ∧ (∀ x, a = some x → base ≤ x.block ∧ x.block < w'.heap.size) ∧ Mod (fun k => ∃ x, a = some x ∧ x.block = k) w w' := by
  rcases h.row.2 with ⟨hv, hz⟩ | ⟨g, cap, cur, hv, hbg, hg, hnc, hcm, hcs, htake⟩
  · have hU : l = [] := List.eq_nil_of_length_eq_zero hz
    subst hU hv
    refine (show Calls Tryz.prog 40 #[.slice none 0 0] w _ from Tryz.slices_Sort_string_none none 0 w).mono ?_
    rintro e w' ⟨rfl, rfl⟩
    rw [sortB_nil]
    exact ⟨rfl, none, 0, rfl, ⟨by simp, by simp [maxLen], by simp, .inl rfl⟩, by simp, Mod.refl _ _⟩
  · subst hv
    have hgl : g < w.heap.size := (Array.getElem?_eq_some_iff.1 hg).1
    have hsz : (bytesOf l).toArray.size = l.length := by simp [bytesOf]
    have hH : Holds encStr w g 0 (bytesOf l).toArray := by
      intro j hj
      have hj' : j < l.length := by simpa [bytesOf] using hj
      refine ⟨?_, ?_⟩
      · have h1 := h.row.cells (g := g) rfl j (.string l[j]) (by simp [List.getElem?_eq_getElem hj'])
        rw [add_zero] at h1
        rw [h1, getElem!_pos _ j hj]
        simp [bytesOf, encStr]
      · simp only [World.frozen?, hg]
        rfl
    have hcon := Tryz.slices_Sort_string g 0 cap (bytesOf l) w hH hgl (by unfold bytesOf; rw [List.length_map]; omega)
    rw [show (bytesOf l).length = l.length by unfold bytesOf; rw [List.length_map]] at hcon
    refine hcon.mono ?_
    rintro e w' ⟨rfl, n, os, rfl⟩
    have hlen := sortB_len l
    have hsl : ((bytesOf l).mergeSort fun x y => decide (x ≤ y)).length = l.length := by rw [List.length_mergeSort]; unfold bytesOf; rw [List.length_map]
    have hH' := holds_sortWorld encStr w g 0 n (bytesOf l).toArray ((bytesOf l).mergeSort fun x y => decide (x ≤ y)).toArray os hgl hH (by simp [hsl, bytesOf])
    have hlt := lt_sortWorld encStr w g 0 n ((bytesOf l).mergeSort fun x y => decide (x ≤ y)).toArray os hgl
    refine ⟨rfl, some ⟨g, 0, none⟩, cap, by rw [hlen], ⟨by rw [hlen]; exact hnc, hcm, fun s hs => h.small s ((sortB_perm l).mem_iff.1 hs), .inr ⟨g, 0, rfl, hlt, fun i s hi => ?_⟩⟩, fun x hx => by injection hx with hx; subst hx; exact ⟨hbg, hlt⟩, ?_⟩
    · have hil : i < ((bytesOf l).mergeSort fun x y => decide (x ≤ y)).length := by
        have := (List.getElem?_eq_some_iff.1 hi).1
        rw [hlen] at this
        omega
      obtain ⟨q, -⟩ := hH' i (by simpa using hil)
      refine Eq.trans q ?_
      rw [getElem!_pos _ i (by simpa using hil)]
      unfold sortB ofBytes at hi
      rw [List.getElem?_map, List.getElem?_eq_getElem hil] at hi
      injection hi with hi
      rw [← hi]
      simp [encStr]
    · have hm := mod_sortStr w g n ((bytesOf l).mergeSort fun x y => decide (x ≤ y)).toArray os hgl
      exact ⟨hm.os, hm.tape, hm.output, hm.size, fun k hk hne => hm.block k hk (fun q => hne ⟨_, rfl, q.symm⟩)⟩
set_option maxHeartbeats 1000000 in
theorem sortStrings_any (base : Nat) (v : Value) (l : List ByteArray) (w : World) (h : OwnT w base v l) (hl : l.length ≤ 1000000) :
    Calls Tryz.prog 52 #[v] w fun e w' => e = .returned (.tuple #[]) ∧
      ∃ (a : Option Addr) (cap : Nat), v = .slice a (sortB l).length cap ∧ StrsAt w' a cap (sortB l) ∧ (∀ x, a = some x → base ≤ x.block ∧ x.block < w'.heap.size) ∧ Mod (fun k => ∃ x, a = some x ∧ x.block = k) w w' := by
  have HS := hid (sortT_fine base v l w h hl)
  clear h hl
  go_enter Tryz.func52, Tryz.ntmps52
  go_wp2_with fail
  refine HS.out.mono ?_
  rintro e w1 ⟨rfl, hq⟩
  have HQ := hid hq
  clear hq
  go_wp2_with fail
  go_end0
  exact ⟨rfl, HQ.out⟩
set_option maxRecDepth 100000 in
set_option maxHeartbeats 4000000 in
theorem ordered_any (base : Nat) (v : Value) (l : List ByteArray) (w : World) (h : OwnT w base v l) (hl : l.length ≤ 1000) (hn : l.Nodup) :
    Calls Tryz.prog 16 #[v] w fun e w' => ∃ (a : Option Addr) (cap : Nat), e = .returned (.slice a (sortB l).length cap) ∧ StrsAt w' a cap (sortB l) ∧ ∀ a0 n0 c0, v = .slice a0 n0 c0 → Mod (fun k => ∃ x, a0 = some x ∧ x.block = k) w w' := by
  have HS := hid (sortStrings_any base v l w h (by omega))
  have HSM := hid h.small
  have hlen := sortB_len l
  have hbw : base ≤ w.heap.size ∨ l = [] := by
    rcases h.row.2 with ⟨-, hz⟩ | ⟨g, cap, cur, -, hbg, hg, -⟩
    · exact .inr (List.eq_nil_of_length_eq_zero hz)
    · have := (Array.getElem?_eq_some_iff.1 hg).1
      exact .inl (by omega)
  have HND := hid ((sortB_perm l).symm.nodup hn)
  clear h hn
  go_enter Tryz.func16, Tryz.ntmps16
  go_wp2_with fail
  refine HS.out.mono ?_
  rintro e w1 ⟨rfl, a, cap, rfl, hst, hbk, hm⟩
  have HST := hid hst; have HM := hid hm
  have hsc := hst.cap
  unfold maxLen at hsc
  obtain ⟨S, hS⟩ : ∃ S, S = sortB l := ⟨_, rfl⟩
  rw [← hS] at HST HND hlen
  try rw [← hS]
  have hsz1 := hm.size
  have HSE := hid hS
  have hSl : S.length ≤ 1000 := by omega
  have HLN := hid hlen
  clear hst hbk hm hS hlen
  go_wp2_with fail
  go_loopw [3, 10] (fun o i wr => ∃ (k : Nat), i = .int .i64 k ∧ k ≤ S.length ∧ OwnT wr w1.heap.size o (S.take k) ∧ Mod (fun j => w1.heap.size ≤ j) w1 wr) (fun _ i _ => S.length - (intOf i).toNat)
  case atStart => exact ⟨0, rfl, by omega, OwnT.nil _ _, Mod.refl _ _⟩
  case round =>
    obtain ⟨k, rfl, hk, ho, hmr⟩ := hrel
    have HO := hid ho; have HMR := hid hmr
    have NMR : Hid (New w1 wr) := hid ((Mod.refl (fun _ => False) w1).trans' hmr (fun i hi q => by omega))
    by_cases hlt : k < S.length
    · obtain ⟨bb, oo, rfl, hbb, hcc⟩ := (HST.out.new NMR.out).get (by omega)
      have g0 := hcc k hlt
      have hsm := HST.out.small S[k] (List.getElem_mem _)
      have HTK := hid (show S.take (k + 1) = S.take k ++ [S[k]] from List.take_succ_eq_append_getElem hlt)
      have hkz : (k = 0 ∧ ((k : Int) == 0) = true) ∨ ∃ p : ByteArray, ((k : Int) == 0) = false ∧ wr.cell? ⟨bb, oo + (k - 1), none⟩ = some (.string p) ∧ (p.toList == S[k].toList) = false := by
        by_cases hk0 : k = 0
        · exact .inl ⟨hk0, by rw [hk0]; rfl⟩
        · refine .inr ⟨S[k - 1], by rw [beq_eq_false_iff_ne]; omega, hcc (k - 1) (by omega), ?_⟩
          rw [beq_eq_false_iff_ne, ByteArray.toList_eq, ByteArray.toList_eq]
          intro q
          have hd := List.pairwise_iff_getElem.1 HND.out (k - 1) k (by omega) hlt (by omega)
          exact hd (ba_eq (by cases ha : S[k - 1].data; cases hb : S[k].data; rw [ha, hb] at q; simp at q; rw [q]))
      obtain ⟨s, hs⟩ : ∃ s, s = S[k] := ⟨_, rfl⟩
      rw [← hs] at g0 hsm HTK hkz
      have HSM2 := hid hsm
      obtain ⟨ao, co, rfl, hso, hbo⟩ := HO.out.strs
      have hco := hso.cap
      unfold maxLen at hco
      have htl : (S.take k).length = k := by rw [List.length_take]; omega
      obtain ⟨L, hL⟩ : ∃ L, L = S.take k := ⟨_, rfl⟩
      rw [← hL] at HO HTK htl ⊢
      obtain ⟨i1, hj, hy0, hy1, hy2⟩ := info_parts info_str
      have hz6 := NMR.out.size
      have HTL := hid htl
      clear ho hmr hcc hs hsm hso hbo hL htl
      rcases hkz with ⟨-, e0⟩ | ⟨p, e0, gp, hne⟩
      · go_wp2_with (at_builtin; refine wpList_append_own_at _ rfl _ _ 22 rfl w1.heap.size 9 i1 _ 1 16 Tryz.underlying22 hj hy0 hy1 hy2 rfl (by decide) (.slice ao L.length co) L.length (L.map Value.string) rfl ?ow ⟨wr.heap.size, 0, none⟩ 1 1 [.string s] rfl rfl ?hn ?h1 ?h63 ?hby ?hba ?_)
        case ow => exact (HO.out.new ((Mod.refl _ _).alloc _)).row
        case hn =>
          intro j u hj
          rw [add_zero]
          match j, hj with
          | 0, hj => simp at hj; subst hj; exact (Blk.newAt (by simp)).cellv 0 rfl
        case h1 => intro u hu; simp at hu; subst hu; rfl
        case h63 => have := HTL.out; have := HLN.out; unfold maxLen; omega
        case hby => have := HTL.out; have := HLN.out; omega
        case hba => simp; omega
        intro o3 w7 r7 g7 _ _
        have O7 : Hid (OwnT w7 w1.heap.size o3 (L ++ [s])) := hid (ownT_of HO.out.small HSM2.out r7)
        have M7 : Hid (Mod (fun k => w1.heap.size ≤ k) wr w7) := hid (mod_grownT (HO.out.new ((Mod.refl _ _).alloc _)) (Nat.le_refl _) ((Mod.refl _ _).alloc _) g7)
        clear r7 g7
        go_wp2
        exact ⟨⟨k + 1, by simp, by omega, by rw [HTK.out]; exact O7.out, HMR.out.trans M7.out⟩, by simp [intOf]; omega⟩
      · have hk1 : (k : Int) - 1 = ((k - 1 : Nat) : Int) := by
          have : k ≠ 0 := by intro q; rw [q] at e0; simp at e0
          omega
        have hw1 : IntKind.i64.wrap ((k : Int) - 1) = ((k - 1 : Nat) : Int) := by rw [IntKind.wrap_i64]; omega
        go_wp2_with (at_builtin; refine wpList_append_own_at _ rfl _ _ 22 rfl w1.heap.size 9 i1 _ 1 16 Tryz.underlying22 hj hy0 hy1 hy2 rfl (by decide) (.slice ao L.length co) L.length (L.map Value.string) rfl ?ow ⟨wr.heap.size, 0, none⟩ 1 1 [.string s] rfl rfl ?hn ?h1 ?h63 ?hby ?hba ?_)
        case ow => exact (HO.out.new ((Mod.refl _ _).alloc _)).row
        case hn =>
          intro j u hj
          rw [add_zero]
          match j, hj with
          | 0, hj => simp at hj; subst hj; exact (Blk.newAt (by simp)).cellv 0 rfl
        case h1 => intro u hu; simp at hu; subst hu; rfl
        case h63 => have := HTL.out; have := HLN.out; unfold maxLen; omega
        case hby => have := HTL.out; have := HLN.out; omega
        case hba => simp; omega
        intro o3 w7 r7 g7 _ _
        have O7 : Hid (OwnT w7 w1.heap.size o3 (L ++ [s])) := hid (ownT_of HO.out.small HSM2.out r7)
        have M7 : Hid (Mod (fun k => w1.heap.size ≤ k) wr w7) := hid (mod_grownT (HO.out.new ((Mod.refl _ _).alloc _)) (Nat.le_refl _) ((Mod.refl _ _).alloc _) g7)
        clear r7 g7
        go_wp2
        exact ⟨⟨k + 1, by simp, by omega, by rw [HTK.out]; exact O7.out, HMR.out.trans M7.out⟩, by simp [intOf]; omega⟩
    · have hkl : S.take k = S := List.take_of_length_le (by omega)
      rw [hkl] at HO
      obtain ⟨ao, co, rfl, hso, hbo⟩ := HO.out.strs
      have HSO := hid hso
      clear ho hmr hso hbo hkl
      go_wp2_with fail
      go_ret
      exact ⟨ao, co, by rw [← HSE.out]; rfl, by rw [← HSE.out]; exact HSO.out, fun a0 n0 c0 hv0 => by
        injection hv0 with q1
        subst q1
        exact HM.out.trans' HMR.out (fun i hi q => by omega)⟩
end Go.Proofs.YtnflhjagmngimaaGreatDoor
