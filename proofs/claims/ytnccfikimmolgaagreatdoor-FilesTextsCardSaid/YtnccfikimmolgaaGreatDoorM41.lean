/-
  Several texts in one, in their build order. The walk of slices.DeleteFunc at files, with bare's closure: the pads go. Condition: the list is of the call's own memory.
-/
import Derived.Test.YtnccfikimmolgaaGreatDoorM40
import Derived.Laws.CopyRow
namespace Go.Proofs.YtnccfikimmolgaaGreatDoor
set_option linter.unusedSimpArgs false
set_option linter.unusedVariables false
open Go.RowKit

set_option maxRecDepth 100000 in
set_option maxHeartbeats 1000000 in
theorem padIndex_some (a : Option Addr) (c : Nat) (l : List FileV) (w : World) (h : FilesAt w a c l) (p : Nat) (hpl : p < l.length) (hp : ∀ (k : Nat) (hk : k < l.length), k < p → l[k].pad = false) (hpp : l[p].pad = true) :
    Calls Tryz.prog 38 #[.slice a l.length c, .func (.func 108) #[] #[]] w fun e w' => e = .returned (.int .i64 p) ∧ New w w' := by
  have hm1 := h.room; have hm2 := h.cap
  unfold maxLen at hm2
  obtain ⟨b1, o1, rfl, hb1, hc1⟩ := h.get (by omega)
  have HC1 := hid hc1
  have HPP := hid hp
  have HPQ := hid hpp
  clear h hc1 hp hpp
  go_enter Tryz.func38, Tryz.ntmps38
  go_wp2
  go_loopw [8] (fun i wr => ∃ k : Nat, i = .int .i64 k ∧ k ≤ p ∧ New w wr) (fun i _ => l.length - (intOf i).toNat)
  case atStart => exact ⟨0, rfl, by omega, Mod.refl _ _⟩
  case round =>
    obtain ⟨k, rfl, hk, hn⟩ := hrel
    have HN := hid hn
    obtain ⟨pa, pc, g0, g1, g2, -, -⟩ := (HC1.out k (by omega)).new hn
    clear hn
    by_cases hlt : k < p
    · have hpf := HPP.out k (by omega) hlt
      obtain ⟨f, hf⟩ : ∃ f, f = l[k]'(by omega) := ⟨_, rfl⟩
      rw [← hf] at g0 g1 g2 hpf
      clear hf
      have HI2 : Hid (∀ w, Calls Tryz.prog 108 #[fileV pa pc f] w fun e w' => e = .returned (.bool false) ∧ New w w') := hid (fun w => by have := isPad_any pa pc f w; rw [hpf] at this; exact this)
      clear hpf
      go_wp2_with (go_at_call 108; refine (HI2.out _).mono ?_; rintro e w1 ⟨rfl, n1⟩; have N1 := hid n1; clear n1)
      exact ⟨⟨k + 1, by simp, by omega, HN.out.trans N1.out⟩, by simp [intOf]; omega⟩
    · have hkp : k = p := by omega
      have hpf : (l[k]'(by omega)).pad = true := by subst hkp; exact HPQ.out
      obtain ⟨f, hf⟩ : ∃ f, f = l[k]'(by omega) := ⟨_, rfl⟩
      rw [← hf] at g0 g1 g2 hpf
      have HKP := hid hkp
      clear hf hkp
      have HI2 : Hid (∀ w, Calls Tryz.prog 108 #[fileV pa pc f] w fun e w' => e = .returned (.bool true) ∧ New w w') := hid (fun w => by have := isPad_any pa pc f w; rw [hpf] at this; exact this)
      clear hpf
      have hkl : (k : Int) < l.length := by omega
      go_wp2_with (go_at_call 108; refine (HI2.out _).mono ?_; rintro e w1 ⟨rfl, n1⟩; have N1 := hid n1; clear n1)
      go_ret
      exact ⟨by have := HKP.out; subst this; rfl, HN.out.trans N1.out⟩

theorem rowOf_len : ∀ (E : List EntV), (rowOf E).length = E.length * 3
  | [] => rfl
  | x :: r => by
    have := rowOf_len r
    show (x.cells ++ rowOf r).length = _
    simp [EntV.cells, this]
    omega
theorem rowOf_set : ∀ (E : List EntV) (i : Nat) (e : EntV), i < E.length → rowOf (E.set i e) = (((rowOf E).set (i * 3) (.slice e.pa e.f.path.length e.pc)).set (i * 3 + 1) (.int .i64 e.f.len)).set (i * 3 + 2) (.bool e.f.pad)
  | [], i, e, h => by simp at h
  | x :: r, 0, e, h => by
    show e.cells ++ rowOf r = (((x.cells ++ rowOf r).set 0 _).set 1 _).set 2 _
    simp [EntV.cells]
  | x :: r, i + 1, e, h => by
    have := rowOf_set r i e (by simpa using h)
    show x.cells ++ rowOf (r.set i e) = (((x.cells ++ rowOf r).set ((i + 1) * 3) _).set ((i + 1) * 3 + 1) _).set ((i + 1) * 3 + 2) _
    rw [this]
    have e3 : (i + 1) * 3 = i * 3 + 3 := by omega
    rw [e3]
    simp [EntV.cells]
/-- An element is stored over another one. -/
theorem Own.put {w : World} {base g n cap : Nat} {E : List EntV} (h : Own w base (.slice (some ⟨g, 0, none⟩) n cap) E) (i : Nat) (e : EntV) (hi : i < E.length) (he : e ∈ E) :
    Own (((w.setCell ⟨g, i * 3, none⟩ (.slice e.pa e.f.path.length e.pc)).setCell ⟨g, i * 3 + 1, none⟩ (.int .i64 e.f.len)).setCell ⟨g, i * 3 + 2, none⟩ (.bool e.f.pad)) base (.slice (some ⟨g, 0, none⟩) n cap) (E.set i e) := by
  have hmem : ∀ x ∈ E.set i e, x ∈ E := fun x hx => by
    rcases List.mem_or_eq_of_mem_set hx with hx | rfl
    · exact hx
    · exact he
  have hm : Mod (· = g) w (((w.setCell ⟨g, i * 3, none⟩ (.slice e.pa e.f.path.length e.pc)).setCell ⟨g, i * 3 + 1, none⟩ (.int .i64 e.f.len)).setCell ⟨g, i * 3 + 2, none⟩ (.bool e.f.pad)) :=
    Mod.set (Mod.set (Mod.set (Mod.refl (fun k => k = g) w) ⟨g, i * 3, none⟩ _ (.inl rfl)) ⟨g, i * 3 + 1, none⟩ _ (.inl rfl)) ⟨g, i * 3 + 2, none⟩ _ (.inl rfl)
  refine ⟨?_, fun x hx => ⟨?_, (h.strs x (hmem x hx)).2⟩, fun x hx => (h.far x (hmem x hx)).imp id (fun ⟨a, h1, h2, h3⟩ => ⟨a, h1, h2, Nat.lt_of_lt_of_le h3 hm.size⟩)⟩
  · obtain ⟨h1, h2⟩ := h.row
    refine ⟨by rw [rowOf_len], ?_⟩
    rcases h2 with ⟨h2, -⟩ | ⟨g', cap', cur, hv, hbg, hg, hnc, hcm, hcs, htake⟩
    · cases h2
    · cases hv
      have hb : Blk w g cur 51 := hg
      refine .inr ⟨g, cap, _, by rw [List.length_set], hbg, ((hb.set (i * 3) _).set (i * 3 + 1) _).set (i * 3 + 2) _, by rw [List.length_set]; exact hnc, hcm, by simp [hcs], ?_⟩
      rw [List.length_set, rowOf_set E i e hi, ← htake]
      simp [List.take_set]
  · rcases h.far x (hmem x hx) with q | ⟨a, ha, q, -⟩
    · have := (h.strs x (hmem x hx)).1
      exact ⟨this.room, this.cap, this.small, .inl q⟩
    · refine (h.strs x (hmem x hx)).1.mod2 hm (fun y hy hq => ?_)
      rw [ha] at hy
      cases hy
      exact q (by rw [hq]; rfl)
theorem Own.cells {w : World} {base g n cap : Nat} {E : List EntV} (h : Own w base (.slice (some ⟨g, 0, none⟩) n cap) E) : (∀ (i : Nat) (e : EntV), E[i]? = some e → w.cell? ⟨g, i * 3, none⟩ = some (.slice e.pa e.f.path.length e.pc) ∧ w.cell? ⟨g, i * 3 + 1, none⟩ = some (.int .i64 e.f.len) ∧ w.cell? ⟨g, i * 3 + 2, none⟩ = some (.bool e.f.pad)) ∧ (∀ j, w.frozen? ⟨g, j, none⟩ = false) ∧ g < w.heap.size := by
  have hlt := h.lt g rfl
  refine ⟨fun i e he => ?_, fun j => ?_, hlt⟩
  · have hcell : ∀ j u, j < 3 → e.cells[j]? = some u → w.cell? ⟨g, i * 3 + j, none⟩ = some u := by
      intro j u hj hu
      have h1 := h.row.cells (g := g) rfl (i * 3 + j) u (by rw [rowOf_at E i e he j hj]; exact hu)
      rw [add_none] at h1
      simpa using h1
    exact ⟨hcell 0 _ (by omega) rfl, hcell 1 _ (by omega) rfl, hcell 2 _ (by omega) rfl⟩
  · rcases h.row.2 with ⟨q, -⟩ | ⟨g', cap', cur, hv, hbg, hg, -⟩
    · cases q
    · cases hv
      exact Blk.frz (show Blk w g cur 51 from hg) j
theorem take_set_next {C : List EntV} {i : Nat} (e : EntV) (h : i < C.length) : (C.set i e).take (i + 1) = C.take i ++ [e] := by
  rw [List.set_eq_take_append_cons_drop, if_pos h, List.take_append]
  simp [Nat.min_eq_left (Nat.le_of_lt h), List.take_take]

theorem Blk.setCells {b : Nat} {t : TypeId} : ∀ (vs : List Value) (o : Nat) (w : World) (cs : Array Value), Blk w b cs t → ∃ cs', Blk (w.setCells b o vs) b cs' t ∧ cs'.size = cs.size ∧ cs'.toList.take o = cs.toList.take o
  | [], o, w, cs, h => ⟨cs, h, rfl, rfl⟩
  | v :: r, o, w, cs, h => by
    obtain ⟨cs', h1, h2, h3⟩ := Blk.setCells r (o + 1) _ _ (h.set o v)
    refine ⟨cs', h1, by simpa using h2, ?_⟩
    have := congrArg (List.take o) h3
    simp only [List.take_take, Nat.min_eq_left (Nat.le_succ o)] at this
    rw [this]
    rw [Array.toList_setIfInBounds, List.take_set, List.set_eq_of_length_le (List.length_take_le _ _)]
theorem Mod.setCells {S : Nat → Prop} {b : Nat} : ∀ (vs : List Value) (o : Nat) (a w : World), Mod S a w → S b → Mod S a (w.setCells b o vs)
  | [], _, _, _, h, _ => h
  | v :: r, o, a, w, h, hb => Mod.setCells r (o + 1) a _ (h.set ⟨b, o, none⟩ v (.inl hb)) hb
/-- The end of the list is cleared and cut off. -/
theorem Own.clear {w : World} {base g n cap : Nat} {E : List EntV} (h : Own w base (.slice (some ⟨g, 0, none⟩) n cap) E) (i : Nat) (hi : i ≤ E.length) (vs : List Value) :
    Own (w.setCells g (i * 3) vs) base (.slice (some ⟨g, 0, none⟩) i cap) (E.take i) := by
  have hm : Mod (· = g) w (w.setCells g (i * 3) vs) := Mod.setCells _ _ _ _ (Mod.refl _ _) rfl
  have hlen : (E.take i).length = i := by simp; omega
  refine ⟨?_, fun x hx => ⟨?_, (h.strs x (List.mem_of_mem_take hx)).2⟩, fun x hx => (h.far x (List.mem_of_mem_take hx)).imp id (fun ⟨a, h1, h2, h3⟩ => ⟨a, h1, h2, Nat.lt_of_lt_of_le h3 hm.size⟩)⟩
  · obtain ⟨h1, h2⟩ := h.row
    refine ⟨by rw [rowOf_len], ?_⟩
    rcases h2 with ⟨h2, -⟩ | ⟨g', cap', cur, hv, hbg, hg, hnc, hcm, hcs, htake⟩
    · cases h2
    · cases hv
      have hb : Blk w g cur 51 := hg
      obtain ⟨cur', k1, k2, k3⟩ := Blk.setCells vs (i * 3) w cur hb
      refine .inr ⟨g, cap, cur', by rw [hlen], hbg, k1, by rw [hlen]; omega, hcm, by rw [k2]; exact hcs, ?_⟩
      rw [hlen, k3]
      have e1 : rowOf (E.take i) = (rowOf E).take (i * 3) := by
        have h5 : rowOf E = rowOf (E.take i) ++ rowOf (E.drop i) := by
          rw [show rowOf (E.take i) ++ rowOf (E.drop i) = rowOf (E.take i ++ E.drop i) by simp only [rowOf, List.flatMap_append], List.take_append_drop]
        rw [h5]
        exact (List.take_left' (by rw [rowOf_len, hlen])).symm
      rw [e1, ← htake, List.take_take, Nat.min_eq_left (by omega)]
  · have hx := List.mem_of_mem_take hx
    rcases h.far x hx with q | ⟨a, ha, q, -⟩
    · have := (h.strs x hx).1
      exact ⟨this.room, this.cap, this.small, .inl q⟩
    · refine (h.strs x hx).1.mod2 hm (fun y hy hq => ?_)
      rw [ha] at hy
      cases hy
      exact q (by rw [hq]; rfl)
theorem zero_file (w : World) : (zeroValue 51).run Tryz.prog w = .ok (.agg #[.slice none 0 0, .int .i64 0, .bool false]) w := by
  have h := info_file
  cases hi : Tryz.prog.info? 51 with
  | none => rw [hi] at h; cases h
  | some i =>
    rw [hi] at h
    simp at h
    simp [zeroValue, typeInfo, hi, h.1]
theorem clear_files {w : World} {base g n cap : Nat} {E : List EntV} (h : Own w base (.slice (some ⟨g, 0, none⟩) n cap) E) (i c : Nat) (hi : i < E.length) : ∃ vs : List Value, ∀ ty, (Builtin.clear_ #[22] ty #[.slice (some ⟨g, i * 3, none⟩) (E.length - i) c]).run Tryz.prog w = .ok (.tuple #[]) (w.setCells g (i * 3) vs) := by
  obtain ⟨h1, h2⟩ := h.row
  rcases h2 with ⟨h2, -⟩ | ⟨g', cap', cur, hv, hbg, hg, hnc, hcm, hcs, htake⟩
  · cases h2
  · cases hv
    have hb : Blk w g cur 51 := hg
    refine ⟨(Builtin.zeroCells #[.slice none 0 0, .int .i64 0, .bool false] (E.length - i)).toList, fun ty => ?_⟩
    have hsz : (Builtin.zeroCells #[.slice none 0 0, .int .i64 0, .bool false] (E.length - i)).toList.length = (E.length - i) * 3 := by
      simp [Builtin.zeroCells, Nat.mul_comm]
    have hst := run_storeCells_cells (P := Tryz.prog) g (i * 3) (Builtin.zeroCells #[.slice none 0 0, .int .i64 0, .bool false] (E.length - i)).toList 0 w (fun j hj => by
      rw [hsz] at hj
      rw [hb.cell, Array.getElem?_eq_getElem (by omega)]
      rfl) (fun j hj => hb.frz _) (by
      intro v hv
      obtain ⟨k, hk, rfl⟩ := List.mem_iff_getElem.1 hv
      simp only [Builtin.zeroCells, Array.toList_map, List.getElem_map]
      have h3 : ∀ m : Nat, m < 3 → ((#[Value.slice none 0 0, .int .i64 0, .bool false])[m]!).oneCell' = true := by
        intro m hm
        match m, hm with
        | 0, _ => rfl
        | 1, _ => rfl
        | 2, _ => rfl
      exact h3 _ (Nat.mod_lt _ (by decide)))
    simp only [Nat.add_zero] at hst
    obtain ⟨m, hm⟩ : ∃ m, E.length - i = m + 1 := ⟨E.length - i - 1, by omega⟩
    rw [hm] at hst ⊢
    simp [Builtin.clear_, run_underlying Tryz.underlying22, zero_file, Value.cells, hst]

set_option maxRecDepth 100000 in
set_option maxHeartbeats 4000000 in
theorem delete_some (g cap base : Nat) (E : List EntV) (w : World) (h : Own w base (.slice (some ⟨g, 0, none⟩) E.length cap) E) (hl : E.length ≤ 40) (hcap : E.length ≤ cap) (hcm : cap ≤ maxLen) (p : Nat) (hpl : p < E.length) (hp : ∀ (k : Nat) (hk : k < E.length), k < p → E[k].f.pad = false) (hpp : E[p].f.pad = true) :
    Calls Tryz.prog 106 #[.slice (some ⟨g, 0, none⟩) E.length cap, .func (.func 108) #[] #[]] w fun e w' => ∃ B : List EntV, e = .returned (.slice (some ⟨g, 0, none⟩) B.length cap) ∧ B = E.filter (fun e => !e.f.pad) ∧ Own w' base (.slice (some ⟨g, 0, none⟩) B.length cap) B ∧ Mod (· = g) w w' := by
  unfold maxLen at hcm
  obtain ⟨a', c', hv, hfa⟩ := h.files
  cases hv
  have HI := hid (padIndex_some (some ⟨g, 0, none⟩) cap (E.map (·.f)) w hfa p (by simpa using hpl) (fun k hk hkp => by simpa using hp k (by simpa using hk) hkp) (by simpa using hpp))
  simp only [List.length_map] at HI
  have HO := hid h
  have HF0 := hid (show (E.take (p + 1)).filter (fun e => !e.f.pad) = E.take p by
    rw [List.take_add_one, List.getElem?_eq_getElem hpl]
    simp only [Option.toList, List.filter_append]
    have h1 : (E.take p).filter (fun e => !e.f.pad) = E.take p := by
      rw [List.filter_eq_self]
      intro x hx
      obtain ⟨k, hk, rfl⟩ := List.mem_iff_getElem.1 hx
      have hkp : k < p := by simp at hk; omega
      rw [List.getElem_take]
      simp [hp k (by omega) hkp]
    rw [h1]
    simp [hpp])
  have hpn2 : ((p : Int) == -1) = false := by simp
  clear h hfa hp hpp
  go_enter Tryz.func106, Tryz.ntmps106
  go_wp2_with (go_at_call 38; refine HI.out.mono ?_; rintro e w1 ⟨rfl, n1⟩; have N1 := hid n1; clear n1)
  go_loopw [6, 5] (fun jv iv wr => ∃ (i j : Nat) (C : List EntV), jv = .int .i64 j ∧ iv = .int .i64 i ∧ i < j ∧ j ≤ E.length ∧ C.length = E.length ∧ C.take i = (E.take j).filter (fun e => !e.f.pad) ∧ C.drop j = E.drop j ∧ (∀ x ∈ C, x ∈ E) ∧ Own wr base (.slice (some ⟨g, 0, none⟩) E.length cap) C ∧ Mod (· = g) w wr) (fun jv _ _ => E.length - (intOf jv).toNat)
  case atStart => exact ⟨p, p + 1, E, by simp, rfl, by omega, by omega, rfl, HF0.out.symm, rfl, fun x hx => hx, HO.out.new N1.out, N1.out.mod⟩
  case round =>
    obtain ⟨i, j, C, rfl, rfl, hij, hj, hcl, hct, hcd, hce, hO, hM⟩ := hrel
    have HO1 := hid hO
    have HM := hid hM
    have HCT := hid hct; have HCD := hid hcd; have HCE := hid hce; have HCL := hid hcl
    obtain ⟨hcells, hfrz, hglt⟩ := hO.cells
    clear hO hM hct hcd hce hcl
    by_cases hlt : j < E.length
    · have hcj : j < C.length := by rw [HCL.out]; exact hlt
      obtain ⟨g0, g1, g2⟩ := hcells j C[j] (List.getElem?_eq_getElem hcj)
      have HEJ := hid (show C[j] = E[j] by
        have h1 := congrArg (fun l => l[0]?) HCD.out
        simp only [List.getElem?_drop, Nat.add_zero] at h1
        rw [List.getElem?_eq_getElem hcj, List.getElem?_eq_getElem hlt] at h1
        exact Option.some.inj h1)
      have HMEM := hid (List.getElem_mem hcj)
      have HNX := hid (show (E.take (j + 1)).filter (fun e => !e.f.pad) = (E.take j).filter (fun e => !e.f.pad) ++ (if E[j].f.pad then [] else [E[j]]) by
        rw [List.take_add_one, List.getElem?_eq_getElem hlt]
        simp only [Option.toList, List.filter_append]
        cases hq : E[j].f.pad <;> simp [hq])
      have HCD2 := hid (show C.drop (j + 1) = E.drop (j + 1) by
        have := congrArg (List.drop 1) HCD.out
        simpa [List.drop_drop, Nat.add_comm] using this)
      rw [← HEJ.out] at HNX
      obtain ⟨e, he⟩ : ∃ e, e = C[j] := ⟨_, rfl⟩
      rw [← he] at g0 g1 g2 HMEM HNX
      clear he HEJ hcells
      have HIP := hid (fun w => isPad_any e.pa e.pc e.f w)
      cases hpad : e.f.pad with
      | true =>
        rw [hpad] at HIP HNX
        clear hpad
        go_wp2_with (go_at_call 108; refine (HIP.out _).mono ?_; rintro er w2 ⟨rfl, n2⟩; have N2 := hid (Mod.trans ((Mod.refl (fun _ => False) wr).alloc _) n2); clear n2)
        exact ⟨⟨i, j + 1, C, by simp, rfl, by omega, by omega, HCL.out, by rw [HNX.out, HCT.out]; simp, HCD2.out, HCE.out, HO1.out.new N2.out, HM.out.trans (New.mod N2.out)⟩, by simp [intOf]; omega⟩
      | false =>
        rw [hpad] at HIP HNX
        have hci : i < C.length := by rw [HCL.out]; omega
        have HCI := hid hci
        obtain ⟨d, hd⟩ : ∃ d, d = C[i] := ⟨_, rfl⟩
        have HDC := hid (show C[i]? = some d by rw [hd]; exact List.getElem?_eq_getElem hci)
        have HPD := hid hpad
        clear hd hpad hci
        go_wp2_with (go_at_call 108; refine (HIP.out _).mono ?_; rintro er w2 ⟨rfl, n2⟩; have N2 := hid (Mod.trans ((Mod.refl (fun _ => False) wr).alloc _) n2); obtain ⟨b0, b1, b2, -, b4⟩ := Blk.file (f := e.f) (pa := e.pa) (pc := e.pc) (n2.blk (Blk.new wr #[.slice e.pa e.f.path.length e.pc, .int .i64 e.f.len, .bool e.f.pad] 51)); have O2 := (HO1.out.new N2.out).cells; obtain ⟨d0, d1, d2⟩ := O2.1 i _ HDC.out; have d3 := O2.2.1 (i * 3); have d4 := O2.2.1 (i * 3 + 1); have d5 := O2.2.1 (i * 3 + 2); have d6 := O2.2.2; clear n2 O2)
        refine ⟨⟨i + 1, j + 1, C.set i e, by simp, by simp, by omega, by omega, by rw [List.length_set]; exact HCL.out, ?_, ?_, fun x hx => ?_, (HO1.out.new N2.out).put i e HCI.out HMEM.out, ?_⟩, by simp [intOf]; omega⟩
        · rw [take_set_next e HCI.out, HCT.out, HNX.out]; simp
        · rw [List.drop_set_of_lt (by omega)]; exact HCD2.out
        · rcases List.mem_or_eq_of_mem_set hx with hx | rfl
          · exact HCE.out x hx
          · exact HCE.out _ HMEM.out
        · exact Mod.set (Mod.set (Mod.set (HM.out.trans (New.mod N2.out)) ⟨g, i * 3, none⟩ _ (.inl rfl)) ⟨g, i * 3 + 1, none⟩ _ (.inl rfl)) ⟨g, i * 3 + 2, none⟩ _ (.inl rfl)
    · have hjl : j = E.length := by omega
      obtain ⟨vs, hclr⟩ := clear_files HO1.out i (cap - i) (by rw [HCL.out]; omega)
      rw [HCL.out] at hclr
      go_wp2
      go_ret
      have hlen : (C.take i).length = i := by have := HCL.out; simp; omega
      refine ⟨C.take i, ?_, ?_, ?_, ?_⟩
      · rw [hlen]; rfl
      · rw [HCT.out, hjl, List.take_length]
      · rw [hlen]
        exact HO1.out.clear i (by have := HCL.out; omega) vs
      · exact Mod.setCells _ _ _ _ HM.out rfl

theorem delete_any (base : Nat) (v : Value) (E : List EntV) (w : World) (h : Own w base v E) (hl : E.length ≤ 40) :
    Calls Tryz.prog 106 #[v, .func (.func 108) #[] #[]] w fun e w' => ∃ v' B, e = .returned v' ∧ B = E.filter (fun e => !e.f.pad) ∧ Own w' base v' B ∧ Mod (fun k => v.ownBlock = some k) w w' := by
  by_cases hp : ∃ e ∈ E, e.f.pad = true
  · obtain ⟨a, c, rfl, hfa⟩ := h.files
    have hroom := hfa.room; have hcm := hfa.cap
    simp at hroom
    have hlt : E.findIdx (fun e => e.f.pad) < E.length := List.findIdx_lt_length_of_exists hp
    rcases h.row.2 with ⟨q, hn⟩ | ⟨g, cap, cur, hv, -⟩
    · omega
    · cases hv
      refine (delete_some g c base E w h hl hroom hcm _ hlt (fun k hk hkp => by simpa using List.not_of_lt_findIdx hkp) (List.findIdx_getElem (w := hlt))).mono ?_
      rintro e w' ⟨B, rfl, hB, hO, hm⟩
      exact ⟨_, B, rfl, hB, hO, hm.mono (fun k _ q => by subst q; rfl)⟩
  · have hp' : ∀ e ∈ E, e.f.pad = false := fun e he => by
      cases hq : e.f.pad with
      | false => rfl
      | true => exact absurd ⟨e, he, hq⟩ hp
    obtain ⟨a, c, rfl, hfa⟩ := h.files
    have := delete_none a c (E.map (·.f)) w hfa (fun f hf => by
      simp only [List.mem_map] at hf
      obtain ⟨e, he, rfl⟩ := hf
      exact hp' e he)
    simp only [List.length_map] at this
    refine this.mono ?_
    rintro e w' ⟨rfl, n⟩
    refine ⟨_, E, rfl, ?_, h.new n, n.mod⟩
    symm
    rw [List.filter_eq_self]
    intro e he
    simp [hp' e he]
theorem bare_filter : ∀ E : List EntV, (E.filter (fun e => !e.f.pad)).map (·.f) = bareL (E.map (·.f))
  | [] => rfl
  | e :: r => by
    have := bare_filter r
    simp only [bareL] at this ⊢
    cases hp : e.f.pad <;> simp [List.filter_cons, hp, this]
theorem bare_any (a : Option Addr) (c : Nat) (l : List FileV) (w : World) (h : FilesAt w a c l) (hl : l.length ≤ 40) (h8 : ∀ f ∈ l, f.path.length ≤ 8) :
    Calls Tryz.prog 78 #[.slice a l.length c] w fun e w' => ∃ v E, e = .returned v ∧ E.map (·.f) = bareL l ∧ Own w' w.heap.size v E ∧ New w w' := by
  have HC := hid (copied_any a c l w h hl h8)
  have HD := hid (fun v E (W : World) (h : Own W w.heap.size v E) (hl : E.length ≤ 40) => delete_any w.heap.size v E W h hl)
  have HL := hid hl
  clear h hl h8
  go_enter Tryz.func78, Tryz.ntmps78
  go_wp2_with (first | (go_at_call 107; refine HC.out.mono ?_; rintro e w1 ⟨v, E, rfl, hE, hO, n1⟩; have HO := hid hO; have HE := hid hE; have N1 := hid n1; clear hE n1 hO) | (go_at_call 106; refine (HD.out _ _ _ HO.out ?_).mono ?_; (focus (have := congrArg List.length HE.out; have := HL.out; simp at *; omega)); rintro e w2 ⟨v', B, rfl, hB, hO2, n2⟩; have HB := hid hB; have HO2 := hid hO2; have N2 := hid n2; clear hB hO2 n2))
  go_ret
  refine ⟨_, B, rfl, ?_, HO2.out, ?_⟩
  · rw [HB.out, bare_filter, HE.out]
  · exact N1.out.trans' N2.out (fun k hk q => by have := (HO.out.row.lt k q).1; omega)
end Go.Proofs.YtnccfikimmolgaaGreatDoor
