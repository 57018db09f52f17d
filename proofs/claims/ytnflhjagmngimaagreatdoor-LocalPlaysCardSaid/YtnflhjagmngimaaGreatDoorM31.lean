/-
  Several texts in one, in their build order. The walk of Add (the reference's crier). Conditions: the crier lies as told. The walk of an Add that is heeded (the reference's crier). Conditions: the crier lies as told.
-/
import Derived.Test.YtnflhjagmngimaaGreatDoorM30
namespace Go.Proofs.YtnflhjagmngimaaGreatDoor
set_option linter.unusedSimpArgs false
set_option linter.unusedVariables false
open Go.RowKit Go.Shelf

def RcV.addE (r : RcV) (k : ByteArray) (priv : Bool) : Int := if k.size = 20 then (if priv then 20 else if 0 ≤ idxP r.all k then 6 else if 200 ≤ r.all.length then 4 else 0) else 1
def lessP (n : ByteArray) (x : ByteArray × Int) : Bool := Op.bytesLess x.1.toList n.toList
/-- A name put in its place. -/
def insP (U : List (ByteArray × Int)) (n : ByteArray) : List (ByteArray × Int) := U.takeWhile (lessP n) ++ (n, -1) :: U.dropWhile (lessP n)
def RcV.addC (r : RcV) (n : ByteArray) : RcV := { r with all := insP r.all n }
theorem ins_split {p : ByteArray × Int → Bool} : ∀ (U : List (ByteArray × Int)) (i : Nat), i ≤ U.length → (∀ j (hj : j < U.length), j < i → p U[j] = true) → (∀ (hj : i < U.length), p U[i] = false) → U.takeWhile p = U.take i ∧ U.dropWhile p = U.drop i
  | [], i, hi, _, _ => by simp at hi; subst hi; simp
  | x :: U, 0, _, _, h2 => by
    have := h2 (by simp)
    simp at this
    simp [this]
  | x :: U, i + 1, hi, h1, h2 => by
    have hx := h1 0 (by simp) (by omega)
    simp at hx
    have ih := ins_split U i (by simpa using hi) (fun j hj hji => h1 (j + 1) (Nat.succ_lt_succ hj) (by omega)) (fun hj => h2 (Nat.succ_lt_succ hj))
    rw [List.takeWhile_cons_of_pos hx, List.dropWhile_cons_of_pos hx, ih.1, ih.2]
    simp
set_option maxRecDepth 100000 in
set_option maxHeartbeats 4000000 in
theorem rAdd_no (R : Nat) (aa ah : Option Addr) (ca ch : Nat) (r : RcV) (n : ByteArray) (priv : Bool) (w : World) (h : RcAt w R aa ah ca ch r) (hl : r.all.length ≤ 200) (hs : n.size ≤ maxLen) (hno : r.addE n priv ≠ 0) :
    Calls Tryz.prog 19 #[.pointer (some ⟨R, 0, none⟩), .string n, .bool priv] w fun e w' => e = .returned (.int .i64 (r.addE n priv)) ∧ New w w' := by
  have HN := hid (rname_any n w hs)
  have HF := hid (find_any R aa ah ca ch r n w h hl)
  have HR := hid (fun W (n : New w W) => (show W.cell? ⟨R, 3, none⟩ = some (.slice aa r.all.length ca) from (h.new n).row.cellv 3 rfl))
  have HL := hid (fun W (n : New w W) => (h.new n).row.lt)
  obtain ⟨r1, r2⟩ := idx_range r.all n
  unfold RcV.addE at hno ⊢
  obtain ⟨I, hI⟩ : ∃ I, I = idxP r.all n := ⟨_, rfl⟩
  obtain ⟨Ln, hLn⟩ : ∃ Ln, Ln = r.all.length := ⟨_, rfl⟩
  rw [← hI] at HF hno r1 r2 ⊢
  rw [← hLn] at HR hl hno r2 ⊢
  clear h hI hLn
  by_cases g : n.size = 20
  · rw [if_pos g] at hno ⊢
    rw [decide_eq_true g] at HN
    clear g
    cases priv with
    | true =>
      simp only [if_true]
      clear hno
      go_enter Tryz.func19, Tryz.ntmps19
      go_wp2_with (go_at_call 55; refine HN.out.mono ?_; rintro e w1 ⟨rfl, rfl⟩)
      go_ret
      exact ⟨rfl, Mod.refl _ _⟩
    | false =>
      simp only [Bool.false_eq_true, if_false] at hno ⊢
      by_cases g2 : 0 ≤ I
      · rw [if_pos g2]
        clear hno
        go_enter Tryz.func19, Tryz.ntmps19
        go_wp2_with (first | (go_at_call 55; refine HN.out.mono ?_; rintro e w1 ⟨rfl, rfl⟩) | (go_at_call 56; refine HF.out.mono ?_; rintro e w2 ⟨rfl, n2⟩))
        go_ret
        exact ⟨rfl, n2⟩
      · rw [if_neg g2] at hno ⊢
        by_cases g3 : 200 ≤ Ln
        · rw [if_pos g3]
          clear hno
          go_enter Tryz.func19, Tryz.ntmps19
          go_wp2_with (first | (go_at_call 55; refine HN.out.mono ?_; rintro e w1 ⟨rfl, rfl⟩) | (go_at_call 56; refine HF.out.mono ?_; rintro e w2 ⟨rfl, n2⟩; have c3 := HR.out _ n2; have cl := HL.out _ n2; have N2 := hid n2; clear n2))
          go_ret
          exact ⟨rfl, N2.out⟩
        · rw [if_neg g3] at hno
          exact absurd rfl hno
  · rw [if_neg g] at hno ⊢
    rw [decide_eq_false g] at HN
    clear g hno
    go_enter Tryz.func19, Tryz.ntmps19
    go_wp2_with (go_at_call 55; refine HN.out.mono ?_; rintro e w1 ⟨rfl, rfl⟩)
    go_ret
    exact ⟨rfl, Mod.refl _ _⟩
theorem radd_yes {r : RcV} {n : ByteArray} {priv : Bool} (h : r.addE n priv = 0) : n.size = 20 ∧ priv = false ∧ idxP r.all n < 0 ∧ r.all.length < 200 := by
  unfold RcV.addE at h
  split at h
  · split at h
    · simp at h
    · split at h
      · simp at h
      · split at h
        · simp at h
        · rename_i h1 h2 h3 h4
          exact ⟨h1, by simpa using h2, by omega, by omega⟩
  · simp at h
/-- What is asked behind an Add that is heeded. -/
def RcAdd (R : Nat) (ah : Option Addr) (ch : Nat) (r : RcV) (n : ByteArray) (w : World) (e : Ending) (w' : World) : Prop :=
  ∃ (a : Option Addr) (c : Nat), e = .returned (.int .i64 0) ∧ RcAt w' R a ah c ch (r.addC n) ∧ Mod (· = R) w w' ∧ ∀ x, a = some x → w.heap.size ≤ x.block
theorem RcAdd.of {R B0 : Nat} {aa ah : Option Addr} {ca ch : Nat} {r : RcV} {n : ByteArray} {w w3 : World} {v : Value} {i : Nat} (h : RcAt w R aa ah ca ch r) (h3 : RcAt w3 R aa ah ca ch r) (hb : w.heap.size ≤ B0) (hn : New w w3) (hsp : r.all.takeWhile (lessP n) = r.all.take i ∧ r.all.dropWhile (lessP n) = r.all.drop i)
    (hi : i ≤ r.all.length) (hv : w3.ownsRow B0 92 2 v (r.all.length + 1) (pairRow (r.all.take i ++ (n, -1) :: r.all.drop i))) : RcAdd R ah ch r n w (.returned (.int .i64 0)) (w3.setCell ⟨R, 3, none⟩ v) := by
  have hz : (r.all.take i ++ (n, -1) :: r.all.drop i).length = r.all.length + 1 := by simp; omega
  rw [← hz] at hv
  obtain ⟨a, c, rfl, hp⟩ := pair_at_of hv
  have hRl := h.row.lt
  have hm : Mod (fun k => k = R) w3 (w3.setCell ⟨R, 3, none⟩ (.slice a (r.all.take i ++ (n, -1) :: r.all.drop i).length c)) := Mod.set (Mod.refl _ _) _ _ (.inl rfl)
  have e : insP r.all n = r.all.take i ++ (n, -1) :: r.all.drop i := by unfold insP; rw [hsp.1, hsp.2]
  refine ⟨a, c, rfl, ⟨?_, ?_, ?_⟩, (New.mod hn).trans hm, fun x hx => by have := (hp.blk hx).1; omega⟩
  · refine (h3.row.set 3 _).row ?_
    show _ = rcRow a ah c ch { r with all := insP r.all n }
    rw [e]
    simp [rcRow]
  · show PairAt _ _ _ _ _ (insP r.all n)
    rw [e]
    exact (hp.mod hm (fun x hx => by have := (hp.blk hx).1; omega)).base (by omega)
  · refine ownsP_mod h3.heard hm (fun g hg => ?_)
    cases ah with
    | none => cases hg
    | some x =>
      injection hg with hg
      have := (h3.hears.blk rfl).1
      omega
end Go.Proofs.YtnflhjagmngimaaGreatDoor

namespace Go.Proofs.YtnflhjagmngimaaGreatDoor
set_option linter.unusedSimpArgs false
set_option linter.unusedVariables false
open Go.RowKit Go.Shelf

set_option maxRecDepth 100000 in
set_option maxHeartbeats 16000000 in
theorem rAdd_yes (R : Nat) (aa ah : Option Addr) (ca ch : Nat) (r : RcV) (n : ByteArray) (priv : Bool) (w : World) (h : RcAt w R aa ah ca ch r) (hs : n.size ≤ maxLen) (hz : ∀ x ∈ r.all, x.1.size = 20) (hok : r.addE n priv = 0) :
    Calls Tryz.prog 19 #[.pointer (some ⟨R, 0, none⟩), .string n, .bool priv] w (RcAdd R ah ch r n w) := by
  obtain ⟨g1, rfl, g2, g3⟩ := radd_yes hok
  have HN := hid (rname_any n w hs)
  rw [decide_eq_true g1] at HN
  have HF := hid (find_any R aa ah ca ch r n w h (by omega))
  obtain ⟨I, hI⟩ : ∃ I, I = idxP r.all n := ⟨_, rfl⟩
  rw [← hI] at HF g2
  have hneg : ¬ 0 ≤ I := by omega
  have hR3 : ∀ W, New w W → W.cell? ⟨R, 3, none⟩ = some (.slice aa r.all.length ca) := fun W (n : New w W) => (h.new n).row.cellv 3 rfl
  have HR3 := hid hR3
  have HRL := hid (fun W (n : New w W) => (h.new n).row.lt)
  have HRF := hid (fun W (n : New w W) => (h.new n).row.frz 3)
  have HR := hid h
  have HAA := hid h.all
  have hc1 := h.all.le; have hc2 := h.all.max
  unfold maxLen at hc2
  obtain ⟨i0, hi, hz0, hz1, hz2⟩ := info_parts info_con
  clear h hok g1 hI hR3
  go_enter Tryz.func19, Tryz.ntmps19
  go_wp2_with (first | (go_at_call 55; refine HN.out.mono ?_; rintro e w1 ⟨rfl, rfl⟩) | (go_at_call 56; refine HF.out.mono ?_; rintro e w2 ⟨rfl, n2⟩; have c3 := HR3.out _ n2; have cl := HRL.out _ n2; have N2 := hid n2; clear n2))
  have HRQ := hid (HR.out.new N2.out)
  obtain ⟨B0, hB0⟩ : ∃ B0, B0 = w2.heap.size := ⟨_, rfl⟩
  have HB0 := hid hB0
  clear hB0
  go_loopw [7] (fun x wr => ∃ i : Nat, x = .int .i64 i ∧ i ≤ r.all.length ∧ (∀ j (hj : j < r.all.length), j < i → lessP n r.all[j] = true) ∧ wr = w2) (fun x _ => r.all.length - (intOf x).toNat)
  case atStart => exact ⟨0, rfl, by omega, fun j _ hj => by omega, rfl⟩
  case round =>
    obtain ⟨i, rfl, hi9, hb, rfl⟩ := hrel
    have HB := hid hb
    clear hb
    by_cases hlt : i < r.all.length
    · obtain ⟨g, hg0, hg, q0, q1, -, -⟩ := HRQ.out.all.get hlt
      cases hbl : lessP n r.all[i] with
      | true =>
        have HBL := hid hbl
        unfold lessP at hbl
        obtain ⟨s, hs2⟩ : ∃ s, s = r.all[i].1 := ⟨_, rfl⟩
        rw [← hs2] at hbl q0
        subst hg0
        clear hs2
        go_wp2
        exact ⟨⟨i + 1, by simp, by omega, fun j hj hji => by
          by_cases e : j = i
          · subst e; exact HBL.out
          · exact HB.out j hj (by omega), trivial⟩, by simp [intOf]; omega⟩
      | false =>
        have hstop : ∀ (hj : i < r.all.length), lessP n r.all[i] = false := fun _ => hbl
        have HBL := hid hbl
        unfold lessP at hbl
        obtain ⟨s, hs2⟩ : ∃ s, s = r.all[i].1 := ⟨_, rfl⟩
        rw [← hs2] at hbl q0
        subst hg0
        have HSP := hid (ins_split r.all i hi9 HB.out hstop)
        clear hstop hs2
        obtain ⟨V1, hV1⟩ : ∃ V1, V1 = r.all.take i := ⟨_, rfl⟩
        obtain ⟨V2, hV2⟩ : ∃ V2, V2 = r.all.drop i := ⟨_, rfl⟩
        have HV1 := hid hV1; have HV2 := hid hV2
        have HL1 := hid (show V1.length = i by rw [hV1, List.length_take]; omega)
        have HL2 := hid (show V2.length = r.all.length - i by rw [hV2, List.length_drop])
        have HPA : Hid (∀ (j : Nat) (u : Value), (pairRow V1)[j]? = some u → wr.cell? ((⟨g, 0, none⟩ : Addr).add j) = some u) := hid (by
          have := (HR.out.new N2.out).all.part 0 V1 (fun j y hy => by rw [hV1, List.getElem?_take] at hy; split at hy; rw [Nat.zero_add]; exact hy; cases hy)
          rwa [Nat.zero_mul] at this)
        have HPV2 : Hid (∀ (j : Nat) y, V2[j]? = some y → r.all[i + j]? = some y) := hid (fun j y hy => by rw [hV2, List.getElem?_drop] at hy; exact hy)
        clear hV1 hV2
        go_wp2_with (first | (at_builtin; go_loud (refine wpList_append_own_at _ rfl _ _ 86 rfl B0 92 i0 _ 2 24 Tryz.underlying86 hi hz0 hz1 hz2 rfl (by decide) (.slice none 0 0) 0 [] rfl ?owA ⟨g, 0, none⟩ i ca (pairRow V1) rfl ?hlA ?hnA ?h1A ?h63A ?hbyA ?hbaA ?_)) | fail)
        case owA => exact World.ownsRow_nil _ _ _ _
        case hlA => rw [pairRow_len, HL1.out]
        case hnA => exact fun j u hj => by have := HPA.out j u hj; first | exact this | (rw [addP, Nat.zero_add] at this; exact this)
        case h1A => exact pair_one _
        case h63A => unfold maxLen; omega
        case hbyA => omega
        case hbaA => have := HB0.out; simp; omega
        intro o1 w3 r1 g1 hne1 hob1
        have N1 : Hid (New wr w3) := hid (newGrownP (Mod.refl _ _) g1 (fun q hq => by cases hq))
        have N3 : Hid (New w w3) := hid (N2.out.trans N1.out)
        have R3 : Hid (w3.ownsRow B0 92 2 o1 i (pairRow V1)) := hid (by simpa using r1)
        obtain ⟨sa, sc, rfl⟩ : ∃ sa sc, o1 = .slice sa i sc := by
          rcases R3.out.2 with ⟨e, hz⟩ | ⟨g9, cap9, cur9, e, -⟩
          · exact ⟨none, 0, by rw [e, hz]⟩
          · exact ⟨_, _, e⟩
        have hB1 : B0 ≤ w3.heap.size := by rw [HB0.out]; exact N1.out.size
        clear r1 g1 hne1 hob1
        go_wp2_with (first | (at_builtin; go_loud (refine wpList_append_own_at _ rfl _ _ 86 rfl B0 92 i0 _ 2 24 Tryz.underlying86 hi hz0 hz1 hz2 rfl (by decide) (.slice sa i sc) i (pairRow V1) rfl ?owB ⟨w3.heap.size, 0, none⟩ 1 1 (pairCells (n, -1)) rfl ?hlB ?hnB ?h1B ?h63B ?hbyB ?hbaB ?_)) | fail)
        case owB => exact ownsP_new R3.out ((Mod.refl _ _).alloc _)
        case hlB => rfl
        case hnB => first | exact fun j u hj => hj | exact two_newP _ _ _ _ rfl
        case h1B => intro u hu; simp [pairCells] at hu; rcases hu with rfl | rfl <;> rfl
        case h63B => unfold maxLen; omega
        case hbyB => omega
        case hbaB => simp; omega
        intro o2 w4 r2 g2 hne2 hob2
        have N4 : Hid (New w w4) := hid (newGrownP (N3.out.alloc _) g2 (fun q hq => by have := (World.ownsRow.lt R3.out q hq).1; have := N2.out.size; have := HB0.out; omega))
        have R4 : Hid (w4.ownsRow B0 92 2 o2 (i + 1) (pairRow V1 ++ pairCells (n, -1))) := hid r2
        obtain ⟨sb, sd, rfl⟩ : ∃ sb sd, o2 = .slice sb (i + 1) sd := by
          rcases R4.out.2 with ⟨e, hz⟩ | ⟨g9, cap9, cur9, e, -⟩
          · exact absurd hz (by simp)
          · exact ⟨_, _, e⟩
        have HB2 : Hid (B0 ≤ w4.heap.size) := hid (by have := g2.size; simp at this; omega)
        have hwB : w.heap.size ≤ B0 := by rw [HB0.out]; exact N2.out.size
        have c3 := HR3.out w4 N4.out; have cl := HRL.out w4 N4.out
        clear r2 g2 hne2 hob2
        have HPC : Hid (∀ (j : Nat) (u : Value), (pairRow V2)[j]? = some u → w4.cell? ((⟨g, i * 2, none⟩ : Addr).add j) = some u) := hid ((HR.out.new N4.out).all.part i V2 HPV2.out)
        have HUI : Hid (0 = 0) := hid rfl
        go_wp2_with (first | (at_builtin; go_loud (refine wpList_append_own_at _ rfl _ _ 86 rfl B0 92 i0 _ 2 24 Tryz.underlying86 hi hz0 hz1 hz2 rfl (by decide) (.slice sb (i + 1) sd) (i + 1) (pairRow V1 ++ pairCells (n, -1)) rfl ?owC ⟨g, i * 2, none⟩ (r.all.length - i) (ca - i) (pairRow V2) rfl ?hlC ?hnC ?h1C ?h63C ?hbyC ?hbaC ?_)) | fail)
        case owC => exact R4.out
        case hlC => (rw [pairRow_len, HL2.out])
        case hnC => exact fun j u hj => by first | exact (HPC.out) j u hj | (have := (HPC.out) j u hj; rw [addP] at this; exact this) | (exfalso; rw [HV0.out] at hj; simp [pairRow] at hj)
        case h1C => exact pair_one _
        case h63C => unfold maxLen; omega
        case hbyC => omega
        case hbaC => exact HB2.out
        intro o3 w5 r3 g3 hne3 hob3
        have N5 : Hid (New w w5) := hid (newGrownP N4.out g3 (fun q hq => by have := (World.ownsRow.lt R4.out q hq).1; omega))
        have R5 : Hid (w5.ownsRow B0 92 2 o3 (r.all.length + 1) (pairRow (r.all.take i ++ (n, -1) :: r.all.drop i))) := hid (by
          rw [← HV1.out, ← HV2.out, pairRow_app, show pairRow ((n, -1) :: V2) = pairCells (n, -1) ++ pairRow V2 from rfl, ← List.append_assoc]
          rw [show r.all.length + 1 = i + 1 + (r.all.length - i) by omega]
          first | exact r3 | (rw [List.append_assoc]; exact r3) | (rw [HUI.out]; exact r3) | (rw [HUI.out, List.append_assoc]; exact r3))
        have c3 := HR3.out w5 N5.out; have cl := HRL.out w5 N5.out; have cf := HRF.out w5 N5.out
        obtain ⟨sf, sg, rfl⟩ : ∃ sf sg, o3 = .slice sf (r.all.length + 1) sg := by
          rcases R5.out.2 with ⟨e, hz⟩ | ⟨g9, cap9, cur9, e, -⟩
          · exact absurd hz (by simp)
          · exact ⟨_, _, e⟩
        clear r3 g3 hne3 hob3
        go_wp2
        go_ret
        exact RcAdd.of HR.out (HR.out.new N5.out) (by rw [HB0.out]; exact N2.out.size) N5.out HSP.out (by omega) R5.out
    · have hstop : ∀ (hj : i < r.all.length), lessP n r.all[i] = false := fun hj => absurd hj hlt
      have HSP := hid (ins_split r.all i hi9 HB.out hstop)
      clear hstop
      rcases HAA.out.lies with ⟨rfl, hU0, rfl⟩ | ⟨g, cs, rfl, hbg, -, -⟩
      · have HU0 := hid hU0
        have hi0 : i = 0 := by rw [hU0] at hi9; simpa using hi9
        subst hi0
        go_wp2_with (first | (at_builtin; refine wpList_append_own_none rfl _ _ 86 rfl B0 92 i0 2 Tryz.underlying86 hi (.slice none 0 0) 0 [] rfl (World.ownsRow_nil _ _ _ _) rfl ?_) | (at_builtin; go_loud (refine wpList_append_own_at _ rfl _ _ 86 rfl B0 92 i0 _ 2 24 Tryz.underlying86 hi hz0 hz1 hz2 rfl (by decide) (.slice none 0 0) 0 [] rfl ?owB ⟨wr.heap.size, 0, none⟩ 1 1 (pairCells (n, -1)) rfl ?hlB ?hnB ?h1B ?h63B ?hbyB ?hbaB ?_)) | fail)
        case owB => exact World.ownsRow_nil _ _ _ _
        case hlB => rfl
        case hnB => first | exact fun j u hj => hj | exact two_newP _ _ _ _ rfl
        case h1B => first | exact pair_one _ | (intro u hu; simp [pairCells] at hu; rcases hu with rfl | rfl <;> rfl)
        case h63B => unfold maxLen; omega
        case hbyB => omega
        case hbaB => first | (have := HB0.out; simp; omega) | (have := HB0.out; have := N1.out.size; simp at this ⊢; omega)
        intro o2 w3 r2 g2 hne2 hob2
        have N3 : Hid (New w w3) := hid (newGrownP (N2.out.alloc _) g2 (fun q hq => by cases hq))
        have NA : Hid (New wr w3) := hid (newGrownP ((Mod.refl _ _).alloc _) g2 (fun q hq => by cases hq))
        have R3 : Hid (w3.ownsRow B0 92 2 o2 1 (pairRow [(n, -1)])) := hid (by
          have := r2
          simpa [pairRow] using this)
        obtain ⟨sa, sc, rfl⟩ : ∃ sa sc, o2 = .slice sa 1 sc := by
          rcases R3.out.2 with ⟨e, hz⟩ | ⟨g9, cap9, cur9, e, -⟩
          · exact absurd hz (by simp)
          · exact ⟨_, _, e⟩
        have c3 := HR3.out w3 N3.out; have cl := HRL.out w3 N3.out; have cf := HRF.out w3 N3.out
        clear r2 g2 hne2 hob2
        go_wp2_with (first | (at_builtin; refine wpList_append_own_none rfl _ _ 86 rfl B0 92 i0 2 Tryz.underlying86 hi (.slice sa 1 sc) 1 (pairRow [(n, -1)]) rfl R3.out rfl ?_) | fail)
        go_ret
        exact RcAdd.of (i := 0) (B0 := B0) HR.out (HR.out.new N3.out) (by rw [HB0.out]; exact N2.out.size) N3.out HSP.out (by omega) (by have := R3.out; rw [HU0.out]; exact this)
      · obtain ⟨V1, hV1⟩ : ∃ V1, V1 = r.all.take i := ⟨_, rfl⟩
        obtain ⟨V2, hV2⟩ : ∃ V2, V2 = r.all.drop i := ⟨_, rfl⟩
        have HV1 := hid hV1; have HV2 := hid hV2
        have HL1 := hid (show V1.length = i by rw [hV1, List.length_take]; omega)
        have HL2 := hid (show V2.length = r.all.length - i by rw [hV2, List.length_drop])
        have HPA : Hid (∀ (j : Nat) (u : Value), (pairRow V1)[j]? = some u → wr.cell? ((⟨g, 0, none⟩ : Addr).add j) = some u) := hid (by
          have := (HR.out.new N2.out).all.part 0 V1 (fun j y hy => by rw [hV1, List.getElem?_take] at hy; split at hy; rw [Nat.zero_add]; exact hy; cases hy)
          rwa [Nat.zero_mul] at this)
        have HPV2 : Hid (∀ (j : Nat) y, V2[j]? = some y → r.all[i + j]? = some y) := hid (fun j y hy => by rw [hV2, List.getElem?_drop] at hy; exact hy)
        clear hV1 hV2
        go_wp2_with (first | (at_builtin; go_loud (refine wpList_append_own_at _ rfl _ _ 86 rfl B0 92 i0 _ 2 24 Tryz.underlying86 hi hz0 hz1 hz2 rfl (by decide) (.slice none 0 0) 0 [] rfl ?owA ⟨g, 0, none⟩ i ca (pairRow V1) rfl ?hlA ?hnA ?h1A ?h63A ?hbyA ?hbaA ?_)) | fail)
        case owA => exact World.ownsRow_nil _ _ _ _
        case hlA => rw [pairRow_len, HL1.out]
        case hnA => exact fun j u hj => by have := HPA.out j u hj; first | exact this | (rw [addP, Nat.zero_add] at this; exact this)
        case h1A => exact pair_one _
        case h63A => unfold maxLen; omega
        case hbyA => omega
        case hbaA => have := HB0.out; simp; omega
        intro o1 w3 r1 g1 hne1 hob1
        have N1 : Hid (New wr w3) := hid (newGrownP (Mod.refl _ _) g1 (fun q hq => by cases hq))
        have N3 : Hid (New w w3) := hid (N2.out.trans N1.out)
        have R3 : Hid (w3.ownsRow B0 92 2 o1 i (pairRow V1)) := hid (by simpa using r1)
        obtain ⟨sa, sc, rfl⟩ : ∃ sa sc, o1 = .slice sa i sc := by
          rcases R3.out.2 with ⟨e, hz⟩ | ⟨g9, cap9, cur9, e, -⟩
          · exact ⟨none, 0, by rw [e, hz]⟩
          · exact ⟨_, _, e⟩
        have hB1 : B0 ≤ w3.heap.size := by rw [HB0.out]; exact N1.out.size
        clear r1 g1 hne1 hob1
        go_wp2_with (first | (at_builtin; go_loud (refine wpList_append_own_at _ rfl _ _ 86 rfl B0 92 i0 _ 2 24 Tryz.underlying86 hi hz0 hz1 hz2 rfl (by decide) (.slice sa i sc) i (pairRow V1) rfl ?owB ⟨w3.heap.size, 0, none⟩ 1 1 (pairCells (n, -1)) rfl ?hlB ?hnB ?h1B ?h63B ?hbyB ?hbaB ?_)) | fail)
        case owB => exact ownsP_new R3.out ((Mod.refl _ _).alloc _)
        case hlB => rfl
        case hnB => first | exact fun j u hj => hj | exact two_newP _ _ _ _ rfl
        case h1B => intro u hu; simp [pairCells] at hu; rcases hu with rfl | rfl <;> rfl
        case h63B => unfold maxLen; omega
        case hbyB => omega
        case hbaB => simp; omega
        intro o2 w4 r2 g2 hne2 hob2
        have N4 : Hid (New w w4) := hid (newGrownP (N3.out.alloc _) g2 (fun q hq => by have := (World.ownsRow.lt R3.out q hq).1; have := N2.out.size; have := HB0.out; omega))
        have R4 : Hid (w4.ownsRow B0 92 2 o2 (i + 1) (pairRow V1 ++ pairCells (n, -1))) := hid r2
        obtain ⟨sb, sd, rfl⟩ : ∃ sb sd, o2 = .slice sb (i + 1) sd := by
          rcases R4.out.2 with ⟨e, hz⟩ | ⟨g9, cap9, cur9, e, -⟩
          · exact absurd hz (by simp)
          · exact ⟨_, _, e⟩
        have HB2 : Hid (B0 ≤ w4.heap.size) := hid (by have := g2.size; simp at this; omega)
        have hwB : w.heap.size ≤ B0 := by rw [HB0.out]; exact N2.out.size
        have c3 := HR3.out w4 N4.out; have cl := HRL.out w4 N4.out
        clear r2 g2 hne2 hob2
        have HPC : Hid (∀ (j : Nat) (u : Value), (pairRow V2)[j]? = some u → w4.cell? ((⟨g, i * 2, none⟩ : Addr).add j) = some u) := hid ((HR.out.new N4.out).all.part i V2 HPV2.out)
        by_cases hvi : ca = i
        · have hvi2 := hvi.symm
          subst hvi2
          clear hvi
          have hV0 : V2 = [] := List.eq_nil_of_length_eq_zero (by have := HL2.out; omega)
          have HV0 := hid hV0
          clear hV0
          have hUi : r.all.length - i = 0 := by omega
          have HUI := hid hUi
          clear hUi
          go_wp2_with (first | (at_builtin; go_loud (refine wpList_append_own_at _ rfl _ _ 86 rfl B0 92 i0 _ 2 24 Tryz.underlying86 hi hz0 hz1 hz2 rfl (by decide) (.slice sb (i + 1) sd) (i + 1) (pairRow V1 ++ pairCells (n, -1)) rfl ?owC ⟨g, 0, none⟩ 0 0 (pairRow V2) rfl ?hlC ?hnC ?h1C ?h63C ?hbyC ?hbaC ?_)) | fail)
          case owC => exact R4.out
          case hlC => (rw [HV0.out]; rfl)
          case hnC => exact fun j u hj => by first | exact ((fun j u hj => by rw [HV0.out] at hj; simp [pairRow] at hj)) j u hj | (have := ((fun j u hj => by rw [HV0.out] at hj; simp [pairRow] at hj)) j u hj; rw [addP] at this; exact this) | (exfalso; rw [HV0.out] at hj; simp [pairRow] at hj)
          case h1C => exact pair_one _
          case h63C => unfold maxLen; omega
          case hbyC => omega
          case hbaC => exact HB2.out
          intro o3 w5 r3 g3 hne3 hob3
          have N5 : Hid (New w w5) := hid (newGrownP N4.out g3 (fun q hq => by have := (World.ownsRow.lt R4.out q hq).1; omega))
          have R5 : Hid (w5.ownsRow B0 92 2 o3 (r.all.length + 1) (pairRow (r.all.take i ++ (n, -1) :: r.all.drop i))) := hid (by
            rw [← HV1.out, ← HV2.out, pairRow_app, show pairRow ((n, -1) :: V2) = pairCells (n, -1) ++ pairRow V2 from rfl, ← List.append_assoc]
            rw [show r.all.length + 1 = i + 1 + (r.all.length - i) by omega]
            first | exact r3 | (rw [List.append_assoc]; exact r3) | (rw [HUI.out]; exact r3) | (rw [HUI.out, List.append_assoc]; exact r3))
          have c3 := HR3.out w5 N5.out; have cl := HRL.out w5 N5.out; have cf := HRF.out w5 N5.out
          obtain ⟨sf, sg, rfl⟩ : ∃ sf sg, o3 = .slice sf (r.all.length + 1) sg := by
            rcases R5.out.2 with ⟨e, hz⟩ | ⟨g9, cap9, cur9, e, -⟩
            · exact absurd hz (by simp)
            · exact ⟨_, _, e⟩
          clear r3 g3 hne3 hob3
          go_wp2
          go_ret
          exact RcAdd.of HR.out (HR.out.new N5.out) (by rw [HB0.out]; exact N2.out.size) N5.out HSP.out (by omega) R5.out
        · have HUI : Hid (0 = 0) := hid rfl
          go_wp2_with (first | (at_builtin; go_loud (refine wpList_append_own_at _ rfl _ _ 86 rfl B0 92 i0 _ 2 24 Tryz.underlying86 hi hz0 hz1 hz2 rfl (by decide) (.slice sb (i + 1) sd) (i + 1) (pairRow V1 ++ pairCells (n, -1)) rfl ?owC ⟨g, i * 2, none⟩ (r.all.length - i) (ca - i) (pairRow V2) rfl ?hlC ?hnC ?h1C ?h63C ?hbyC ?hbaC ?_)) | fail)
          case owC => exact R4.out
          case hlC => (rw [pairRow_len, HL2.out])
          case hnC => exact fun j u hj => by first | exact (HPC.out) j u hj | (have := (HPC.out) j u hj; rw [addP] at this; exact this) | (exfalso; rw [HV0.out] at hj; simp [pairRow] at hj)
          case h1C => exact pair_one _
          case h63C => unfold maxLen; omega
          case hbyC => omega
          case hbaC => exact HB2.out
          intro o3 w5 r3 g3 hne3 hob3
          have N5 : Hid (New w w5) := hid (newGrownP N4.out g3 (fun q hq => by have := (World.ownsRow.lt R4.out q hq).1; omega))
          have R5 : Hid (w5.ownsRow B0 92 2 o3 (r.all.length + 1) (pairRow (r.all.take i ++ (n, -1) :: r.all.drop i))) := hid (by
            rw [← HV1.out, ← HV2.out, pairRow_app, show pairRow ((n, -1) :: V2) = pairCells (n, -1) ++ pairRow V2 from rfl, ← List.append_assoc]
            rw [show r.all.length + 1 = i + 1 + (r.all.length - i) by omega]
            first | exact r3 | (rw [List.append_assoc]; exact r3) | (rw [HUI.out]; exact r3) | (rw [HUI.out, List.append_assoc]; exact r3))
          have c3 := HR3.out w5 N5.out; have cl := HRL.out w5 N5.out; have cf := HRF.out w5 N5.out
          obtain ⟨sf, sg, rfl⟩ : ∃ sf sg, o3 = .slice sf (r.all.length + 1) sg := by
            rcases R5.out.2 with ⟨e, hz⟩ | ⟨g9, cap9, cur9, e, -⟩
            · exact absurd hz (by simp)
            · exact ⟨_, _, e⟩
          clear r3 g3 hne3 hob3
          go_wp2
          go_ret
          exact RcAdd.of HR.out (HR.out.new N5.out) (by rw [HB0.out]; exact N2.out.size) N5.out HSP.out (by omega) R5.out
end Go.Proofs.YtnflhjagmngimaaGreatDoor
