/-
  Several texts in one, in their build order. The reference's text of a list. Conditions: the reader lies as told; the text is small.
-/
import Derived.Test.YtbgmkplpolgebaaGreatDoorM38
import Derived.Test.YtbgmkplpolgebaaGreatDoorM39
namespace Go.Proofs.YtbgmkplpolgebaaGreatDoor
set_option linter.unusedSimpArgs false
set_option linter.unusedVariables false
open Go.RowKit Go.Shelf

def codeM : Except Int MgV → Int
  | .ok _ => 0
  | .error k => k
def PartR (B base : Nat) (w : World) (x : Except Int MgV) (e : Ending) (w' : World) : Prop := e = .returned (.int .i64 (codeM x)) ∧ (∀ m, x = .ok m → ∃ r, RdIs 59 w' B base m r) ∧ Mod (fun k => k = B ∨ base ≤ k) w w'
theorem PartR.no {B base : Nat} {w w' : World} {x : Except Int MgV} {k : Int} (h : x = .error k) (m : Mod (fun k => k = B ∨ base ≤ k) w w') : PartR B base w x (.returned (.int .i64 k)) w' := by
  subst h
  exact ⟨rfl, fun _ q => (by cases q), m⟩
theorem PartR.yes {B base : Nat} {w w' : World} {x : Except Int MgV} {m : MgV} {r : RdM} (h : x = .ok m) (hr : RdIs 59 w' B base m r) (n : Mod (fun k => k = B ∨ base ≤ k) w w') : PartR B base w x (.returned (.int .i64 0)) w' := by
  subst h
  exact ⟨rfl, fun m' q => (by injection q with q; subst q; exact ⟨r, hr⟩), n⟩
theorem rxt_part (B base : Nat) (m : MgV) (r : RdM) (s : ByteArray) (w : World) (h : RdIs 59 w B base m r) (hs : s.size ≤ 65536) :
    Calls Tryz.prog 84 #[.pointer (some ⟨B, 0, none⟩), .string s] w fun e w' => PartR B base w (topM m s) e w' := by
  refine (rtopics_any B r s w h.blk hs).mono ?_
  intro e w' q
  have mm : ∀ {w' : World}, Mod (fun k => k = B) w w' → Mod (fun k => k = B ∨ base ≤ k) w w' := fun n => n.mono (fun _ _ x => .inl x)
  cases ht : topM m s with
  | error k =>
    rw [topM_no h.old h.new ht] at q
    obtain ⟨rfl, n⟩ := q
    exact PartR.no rfl (mm n)
  | ok m' =>
    obtain ⟨h1, h2⟩ := topM_yes h.old h.new ht
    rw [h1] at q
    obtain ⟨rfl, hb, n⟩ := q
    refine PartR.yes rfl (h.turn n hb rfl rfl rfl rfl ?_ ?_ ?_ ?_ rfl rfl ?_ ?_ ?_) (mm n)
    · rw [h2]
    · rw [h2]
    · rw [h2]
    · rw [h2]
    · rw [h2]; exact h.name
    · rw [h2]; exact h.named
    · rw [h2]; exact h.only
set_option maxRecDepth 100000 in
set_option maxHeartbeats 4000000 in
theorem rtr_part (B base : Nat) (m : MgV) (r : RdM) (s : ByteArray) (w : World) (h : RdIs 59 w B base m r) (hs : s.size ≤ 65536) (hbs : base ≤ w.heap.size) (hl10 : m.tr.length ≤ 10) :
    Calls Tryz.prog 86 #[.pointer (some ⟨B, 3, none⟩), .string s] w fun e w' => PartR B base w (trM m s.data.toList) e w' := by
  obtain ⟨i0, hi, hz0, hz1, hz2⟩ := info_parts info_strM
  have H := hid h
  have HUN := hid (loose_any s w (by omega))
  have HMM : Hid (∀ W, New w W → Mod (fun k => k = B ∨ base ≤ k) w W) := hid (fun W n => New.mod n)
  have HE := hid (show ∀ k, textP m.tr s.data.toList = .error k → trM m s.data.toList = .error k from fun k q => by unfold trM; rw [q])
  have HK := hid (show ∀ l, textP m.tr s.data.toList = .ok l → trM m s.data.toList = .ok { m with tr := l } from fun l q => by unfold trM; rw [q])
  have hlen : s.data.toList.length = s.size := by rw [Array.length_toList]; rfl
  obtain ⟨X, hX⟩ : ∃ X, X = trM m s.data.toList := ⟨_, rfl⟩
  rw [← hX] at HE HK ⊢
  clear h hX
  cases hl : loose s.data.toList with
  | none =>
    obtain ⟨e1, e2⟩ := ls_none hl
    rw [e1, e2] at HUN
    have HXN := hid (HE.out _ (textP_none hl))
    clear hl e1 e2
    go_enter Tryz.func86, Tryz.ntmps86
    go_wp2_with fail
    refine HUN.out.mono ?_
    rintro e w1 ⟨rfl, n1⟩
    have N1 := hid n1
    have H1 := hid (H.out.next n1)
    clear n1
    go_wp2_with fail
    go_ret
    exact PartR.no HXN.out (HMM.out _ N1.out)
  | some t =>
    obtain ⟨e1, e2⟩ := ls_some hl
    rw [e1, e2] at HUN
    have hle := loose_len _ s.data.toList (Nat.le_refl _) t hl
    have hTs : (⟨t.toArray⟩ : ByteArray).size = t.length := size_list t
    have HTD := hid (show (⟨t.toArray⟩ : ByteArray) = mkB t from rfl)
    have HTL := hid (show (⟨t.toArray⟩ : ByteArray).toList = t by rw [ByteArray.toList_eq])
    obtain ⟨T, hT⟩ : ∃ T : ByteArray, T = ⟨t.toArray⟩ := ⟨_, rfl⟩
    rw [← hT] at HUN hTs HTD HTL
    clear hT e1 e2
    by_cases ht0 : t = []
    · have HXN := hid (HE.out _ (textP_bad hl (.inl ht0)))
      have hte : (T.toList == []) = true := by rw [HTL.out, ht0]; rfl
      have htI : T.toList.isEmpty = true := by rw [HTL.out, ht0]; rfl
      clear hl ht0 hTs
      go_enter Tryz.func86, Tryz.ntmps86
      go_wp2_with fail
      refine HUN.out.mono ?_
      rintro e w1 ⟨rfl, n1⟩
      have N1 := hid n1
      have H1 := hid (H.out.next n1)
      clear n1
      go_wp2_with fail
      go_ret
      exact PartR.no HXN.out (HMM.out _ N1.out)
    · have hte : (T.toList == []) = false := by rw [HTL.out, beq_eq_false_iff_ne]; exact ht0
      have htI : T.toList.isEmpty = false := by
        rw [HTL.out]
        cases t with
        | nil => exact absurd rfl ht0
        | cons x y => rfl
      by_cases hbig : 200 < t.length
      · have HXN := hid (HE.out _ (textP_bad hl (.inr hbig)))
        have hbI : (200 : Int) < (T.size : Int) := by omega
        have hbd : decide ((200 : Int) < (T.size : Int)) = true := decide_eq_true hbI
        clear hl ht0 hTs hbig
        go_enter Tryz.func86, Tryz.ntmps86
        go_wp2_with fail
        refine HUN.out.mono ?_
        rintro e w1 ⟨rfl, n1⟩
        have N1 := hid n1
        have H1 := hid (H.out.next n1)
        clear n1
        go_wp2_with fail
        go_ret
        exact PartR.no HXN.out (HMM.out _ N1.out)
      · have hbI : ¬ (200 : Int) < (T.size : Int) := by omega
        have hbd : decide ((200 : Int) < (T.size : Int)) = false := decide_eq_false hbI
        have hT200 : T.size ≤ 200 := by omega
        have hbad : ¬ (t = [] ∨ 200 < t.length) := fun q => q.elim ht0 hbig
        by_cases hfull : 10 ≤ m.tr.length
        · have HXN := hid (HE.out _ (textP_full hl hbad hfull))
          have h10 : ((m.tr.length : Int) == 10) = true := by rw [beq_iff_eq]; omega
          have h10n : m.tr.length = 10 := by omega
          clear hl ht0 hTs hbig hbad hfull hl10
          go_enter Tryz.func86, Tryz.ntmps86
          go_wp2_with fail
          refine HUN.out.mono ?_
          rintro e w1 ⟨rfl, n1⟩
          have N1 := hid n1
          have H1 := hid (H.out.next n1)
          clear n1
          obtain ⟨ta, tc, htv⟩ := OwnS.form (l := m.tr) ⟨H1.out.tr, H1.out.trs⟩
          have b3 : w1.cell? ⟨B, 3, none⟩ = some (.slice ta m.tr.length tc) := by rw [← htv]; exact H1.out.blk.cellv 3 rfl
          clear htv
          go_wp2_with fail
          go_ret
          exact PartR.no HXN.out (HMM.out _ N1.out)
        · have HXN := hid (HK.out _ (textP_yes hl hbad hfull))
          rw [← HTD.out] at HXN
          have h10 : ((m.tr.length : Int) == 10) = false := by rw [beq_eq_false_iff_ne]; omega
          have h10n : m.tr.length ≤ 9 := by omega
          clear hl ht0 hTs hbig hbad hfull hl10
          go_enter Tryz.func86, Tryz.ntmps86
          go_wp2_with fail
          refine HUN.out.mono ?_
          rintro e w1 ⟨rfl, n1⟩
          have N1 := hid n1
          have H1 := hid (H.out.next n1)
          clear n1
          have O1 : Hid (OwnS w1 base r.tr m.tr) := hid ⟨H1.out.tr, H1.out.trs⟩
          obtain ⟨ta, tc, htv⟩ := O1.out.form
          have b3 : w1.cell? ⟨B, 3, none⟩ = some (.slice ta m.tr.length tc) := by rw [← htv]; exact H1.out.blk.cellv 3 rfl
          have HTV := hid htv
          clear htv
          go_wp2_with (first | (at_builtin; refine wpList_append_own_at _ rfl _ _ 23 rfl base 9 i0 _ 1 16 Tryz.underlying23 hi hz0 hz1 hz2 rfl (by decide) (.slice ta m.tr.length tc) m.tr.length (m.tr.map Value.string) rfl ?zowtr ⟨w1.heap.size, 0, none⟩ 1 1 [.string T] rfl rfl ?zhntr ?zh1tr ?zh63tr ?zhbytr ?zhbatr ?_) | fail)
          case zowtr => rw [← HTV.out]; exact (O1.out.new ((Mod.refl _ _).alloc _)).row
          try case zhntr => exact cell_one_new _ _ _
          try case zh1tr => first | rfl | (intro u hu; simp at hu; subst hu; rfl)
          case zh63tr => unfold maxLen; omega
          case zhbytr => omega
          case zhbatr => have := N1.out.size; simp; omega
          intro o' w' r' g' _ hat
          have ho := ownS_of H1.out.trs (show T.size ≤ maxLen by unfold maxLen; omega) r'
          rw [← HTV.out] at g' hat
          have hm : Mod (fun k => r.tr.ownBlock = some k) w1 w' := ((((Mod.refl (fun _ => False) w1).alloc (.cells #[.string T] 9)).mono (S' := fun k => r.tr.ownBlock = some k) (fun _ _ q => q.elim)).trans (mod_grownS g'))
          have hob : o'.ownBlock = r.tr.ownBlock ∨ ∃ g, o'.ownBlock = some g ∧ w1.heap.size ≤ g := by
            rcases hat with q | q
            · exact .inl q
            · exact .inr ⟨_, q, by simp⟩
          obtain ⟨oa, oc, hof⟩ := ho.form
          rw [List.length_append, List.length_singleton] at hof
          subst hof
          have hR := RdIs.trPut H1.out hm ho hob
          have hB2 := hm.blk H1.out.blk (fun q => by have := (rowBlock H1.out.tr q).1; have := H1.out.low; omega)
          have bc : w'.cell? ⟨B, 3, none⟩ = some r.tr := hB2.cellv 3 rfl
          have bl := hB2.lt
          have bf := hB2.frz 3
          have HR := hid hR
          have HM2 : Hid (Mod (fun k => k = B ∨ base ≤ k) w w') := hid ((HMM.out _ N1.out).trans (hm.mono (fun k _ q => .inr (rowBlock H1.out.tr q).1)))
          clear ho hm hob hR hB2 r' g' hat b3
          go_wp2
          go_ret
          exact PartR.yes HXN.out HR.out (HM2.out.set _ _ (.inl (.inl rfl)))
set_option maxRecDepth 100000 in
set_option maxHeartbeats 4000000 in
theorem rws_part (B base : Nat) (m : MgV) (r : RdM) (s : ByteArray) (w : World) (h : RdIs 59 w B base m r) (hs : s.size ≤ 65536) (hbs : base ≤ w.heap.size) (hl10 : m.ws.length ≤ 10) :
    Calls Tryz.prog 86 #[.pointer (some ⟨B, 5, none⟩), .string s] w fun e w' => PartR B base w (wsM m s.data.toList) e w' := by
  obtain ⟨i0, hi, hz0, hz1, hz2⟩ := info_parts info_strM
  have H := hid h
  have HUN := hid (loose_any s w (by omega))
  have HMM : Hid (∀ W, New w W → Mod (fun k => k = B ∨ base ≤ k) w W) := hid (fun W n => New.mod n)
  have HE := hid (show ∀ k, textP m.ws s.data.toList = .error k → wsM m s.data.toList = .error k from fun k q => by unfold wsM; rw [q])
  have HK := hid (show ∀ l, textP m.ws s.data.toList = .ok l → wsM m s.data.toList = .ok { m with ws := l } from fun l q => by unfold wsM; rw [q])
  have hlen : s.data.toList.length = s.size := by rw [Array.length_toList]; rfl
  obtain ⟨X, hX⟩ : ∃ X, X = wsM m s.data.toList := ⟨_, rfl⟩
  rw [← hX] at HE HK ⊢
  clear h hX
  cases hl : loose s.data.toList with
  | none =>
    obtain ⟨e1, e2⟩ := ls_none hl
    rw [e1, e2] at HUN
    have HXN := hid (HE.out _ (textP_none hl))
    clear hl e1 e2
    go_enter Tryz.func86, Tryz.ntmps86
    go_wp2_with fail
    refine HUN.out.mono ?_
    rintro e w1 ⟨rfl, n1⟩
    have N1 := hid n1
    have H1 := hid (H.out.next n1)
    clear n1
    go_wp2_with fail
    go_ret
    exact PartR.no HXN.out (HMM.out _ N1.out)
  | some t =>
    obtain ⟨e1, e2⟩ := ls_some hl
    rw [e1, e2] at HUN
    have hle := loose_len _ s.data.toList (Nat.le_refl _) t hl
    have hTs : (⟨t.toArray⟩ : ByteArray).size = t.length := size_list t
    have HTD := hid (show (⟨t.toArray⟩ : ByteArray) = mkB t from rfl)
    have HTL := hid (show (⟨t.toArray⟩ : ByteArray).toList = t by rw [ByteArray.toList_eq])
    obtain ⟨T, hT⟩ : ∃ T : ByteArray, T = ⟨t.toArray⟩ := ⟨_, rfl⟩
    rw [← hT] at HUN hTs HTD HTL
    clear hT e1 e2
    by_cases ht0 : t = []
    · have HXN := hid (HE.out _ (textP_bad hl (.inl ht0)))
      have hte : (T.toList == []) = true := by rw [HTL.out, ht0]; rfl
      have htI : T.toList.isEmpty = true := by rw [HTL.out, ht0]; rfl
      clear hl ht0 hTs
      go_enter Tryz.func86, Tryz.ntmps86
      go_wp2_with fail
      refine HUN.out.mono ?_
      rintro e w1 ⟨rfl, n1⟩
      have N1 := hid n1
      have H1 := hid (H.out.next n1)
      clear n1
      go_wp2_with fail
      go_ret
      exact PartR.no HXN.out (HMM.out _ N1.out)
    · have hte : (T.toList == []) = false := by rw [HTL.out, beq_eq_false_iff_ne]; exact ht0
      have htI : T.toList.isEmpty = false := by
        rw [HTL.out]
        cases t with
        | nil => exact absurd rfl ht0
        | cons x y => rfl
      by_cases hbig : 200 < t.length
      · have HXN := hid (HE.out _ (textP_bad hl (.inr hbig)))
        have hbI : (200 : Int) < (T.size : Int) := by omega
        have hbd : decide ((200 : Int) < (T.size : Int)) = true := decide_eq_true hbI
        clear hl ht0 hTs hbig
        go_enter Tryz.func86, Tryz.ntmps86
        go_wp2_with fail
        refine HUN.out.mono ?_
        rintro e w1 ⟨rfl, n1⟩
        have N1 := hid n1
        have H1 := hid (H.out.next n1)
        clear n1
        go_wp2_with fail
        go_ret
        exact PartR.no HXN.out (HMM.out _ N1.out)
      · have hbI : ¬ (200 : Int) < (T.size : Int) := by omega
        have hbd : decide ((200 : Int) < (T.size : Int)) = false := decide_eq_false hbI
        have hT200 : T.size ≤ 200 := by omega
        have hbad : ¬ (t = [] ∨ 200 < t.length) := fun q => q.elim ht0 hbig
        by_cases hfull : 10 ≤ m.ws.length
        · have HXN := hid (HE.out _ (textP_full hl hbad hfull))
          have h10 : ((m.ws.length : Int) == 10) = true := by rw [beq_iff_eq]; omega
          have h10n : m.ws.length = 10 := by omega
          clear hl ht0 hTs hbig hbad hfull hl10
          go_enter Tryz.func86, Tryz.ntmps86
          go_wp2_with fail
          refine HUN.out.mono ?_
          rintro e w1 ⟨rfl, n1⟩
          have N1 := hid n1
          have H1 := hid (H.out.next n1)
          clear n1
          obtain ⟨ta, tc, htv⟩ := OwnS.form (l := m.ws) ⟨H1.out.ws, H1.out.wss⟩
          have b3 : w1.cell? ⟨B, 5, none⟩ = some (.slice ta m.ws.length tc) := by rw [← htv]; exact H1.out.blk.cellv 5 rfl
          clear htv
          go_wp2_with fail
          go_ret
          exact PartR.no HXN.out (HMM.out _ N1.out)
        · have HXN := hid (HK.out _ (textP_yes hl hbad hfull))
          rw [← HTD.out] at HXN
          have h10 : ((m.ws.length : Int) == 10) = false := by rw [beq_eq_false_iff_ne]; omega
          have h10n : m.ws.length ≤ 9 := by omega
          clear hl ht0 hTs hbig hbad hfull hl10
          go_enter Tryz.func86, Tryz.ntmps86
          go_wp2_with fail
          refine HUN.out.mono ?_
          rintro e w1 ⟨rfl, n1⟩
          have N1 := hid n1
          have H1 := hid (H.out.next n1)
          clear n1
          have O1 : Hid (OwnS w1 base r.ws m.ws) := hid ⟨H1.out.ws, H1.out.wss⟩
          obtain ⟨ta, tc, htv⟩ := O1.out.form
          have b3 : w1.cell? ⟨B, 5, none⟩ = some (.slice ta m.ws.length tc) := by rw [← htv]; exact H1.out.blk.cellv 5 rfl
          have HTV := hid htv
          clear htv
          go_wp2_with (first | (at_builtin; refine wpList_append_own_at _ rfl _ _ 23 rfl base 9 i0 _ 1 16 Tryz.underlying23 hi hz0 hz1 hz2 rfl (by decide) (.slice ta m.ws.length tc) m.ws.length (m.ws.map Value.string) rfl ?zowws ⟨w1.heap.size, 0, none⟩ 1 1 [.string T] rfl rfl ?zhnws ?zh1ws ?zh63ws ?zhbyws ?zhbaws ?_) | fail)
          case zowws => rw [← HTV.out]; exact (O1.out.new ((Mod.refl _ _).alloc _)).row
          try case zhnws => exact cell_one_new _ _ _
          try case zh1ws => first | rfl | (intro u hu; simp at hu; subst hu; rfl)
          case zh63ws => unfold maxLen; omega
          case zhbyws => omega
          case zhbaws => have := N1.out.size; simp; omega
          intro o' w' r' g' _ hat
          have ho := ownS_of H1.out.wss (show T.size ≤ maxLen by unfold maxLen; omega) r'
          rw [← HTV.out] at g' hat
          have hm : Mod (fun k => r.ws.ownBlock = some k) w1 w' := ((((Mod.refl (fun _ => False) w1).alloc (.cells #[.string T] 9)).mono (S' := fun k => r.ws.ownBlock = some k) (fun _ _ q => q.elim)).trans (mod_grownS g'))
          have hob : o'.ownBlock = r.ws.ownBlock ∨ ∃ g, o'.ownBlock = some g ∧ w1.heap.size ≤ g := by
            rcases hat with q | q
            · exact .inl q
            · exact .inr ⟨_, q, by simp⟩
          obtain ⟨oa, oc, hof⟩ := ho.form
          rw [List.length_append, List.length_singleton] at hof
          subst hof
          have hR := RdIs.wsPut H1.out hm ho hob
          have hB2 := hm.blk H1.out.blk (fun q => by have := (rowBlock H1.out.ws q).1; have := H1.out.low; omega)
          have bc : w'.cell? ⟨B, 5, none⟩ = some r.ws := hB2.cellv 5 rfl
          have bl := hB2.lt
          have bf := hB2.frz 5
          have HR := hid hR
          have HM2 : Hid (Mod (fun k => k = B ∨ base ≤ k) w w') := hid ((HMM.out _ N1.out).trans (hm.mono (fun k _ q => .inr (rowBlock H1.out.ws q).1)))
          clear ho hm hob hR hB2 r' g' hat b3
          go_wp2
          go_ret
          exact PartR.yes HXN.out HR.out (HM2.out.set _ _ (.inl (.inl rfl)))
end Go.Proofs.YtbgmkplpolgebaaGreatDoor
