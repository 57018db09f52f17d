/-
  Several texts in one, in their build order. The walks of the functions that read a magnet's parts (package magnet), told of a reader with its lists. Conditions: the reader lies as told; the text is small; the library's variables are as laid.
-/
import Derived.Test.YtbgmkplpolgebaaGreatDoorM38
import Derived.Test.YtbgmkplpolgebaaGreatDoorM33
import Derived.Test.YtbgmkplpolgebaaGreatDoorM27
import Derived.Test.YtbgmkplpolgebaaGreatDoorM17
namespace Go.Proofs.YtbgmkplpolgebaaGreatDoor
set_option linter.unusedSimpArgs false
set_option linter.unusedVariables false
open Go.RowKit Go.Shelf

def PartE : Except Int MgV → Ending
  | .ok _ => .returned (.tuple #[])
  | .error k => .panicked (toldM k)
def PartQ (B base : Nat) (w : World) (x : Except Int MgV) (e : Ending) (w' : World) : Prop := e = PartE x ∧ (∀ m, x = .ok m → ∃ r, RdIs 49 w' B base m r) ∧ Mod (fun k => k = B ∨ base ≤ k) w w'
theorem PartQ.no {B base : Nat} {w w' : World} {x : Except Int MgV} {k : Int} (h : x = .error k) (m : Mod (fun k => k = B ∨ base ≤ k) w w') : PartQ B base w x (.panicked (toldM k)) w' := by
  subst h
  exact ⟨rfl, fun _ q => (by cases q), m⟩
theorem PartQ.yes {B base : Nat} {w w' : World} {x : Except Int MgV} {m : MgV} {r : RdM} (h : x = .ok m) (hr : RdIs 49 w' B base m r) (n : Mod (fun k => k = B ∨ base ≤ k) w w') : PartQ B base w x (.returned (.tuple #[])) w' := by
  subst h
  exact ⟨rfl, fun m' q => (by injection q with q; subst q; exact ⟨r, hr⟩), n⟩
theorem xt_part (B base : Nat) (m : MgV) (r : RdM) (s : ByteArray) (w : World) (h : RdIs 49 w B base m r) (hs : s.size ≤ 65536) :
    Calls Tryz.prog 74 #[.pointer (some ⟨B, 0, none⟩), .string s] w fun e w' => PartQ B base w (topM m s) e w' := by
  refine (topic_any B r s w h.blk hs).mono ?_
  intro e w' q
  have mm : ∀ {w' : World}, Mod (fun k => k = B) w w' → Mod (fun k => k = B ∨ base ≤ k) w w' := fun n => n.mono (fun _ _ x => .inl x)
  cases ht : topM m s with
  | error k =>
    rw [topM_no h.old h.new ht] at q
    obtain ⟨rfl, n⟩ := q
    exact PartQ.no rfl (mm n)
  | ok m' =>
    obtain ⟨h1, h2⟩ := topM_yes h.old h.new ht
    rw [h1] at q
    obtain ⟨rfl, hb, n⟩ := q
    refine PartQ.yes rfl (h.turn n hb rfl rfl rfl rfl ?_ ?_ ?_ ?_ rfl rfl ?_ ?_ ?_) (mm n)
    · rw [h2]
    · rw [h2]
    · rw [h2]
    · rw [h2]
    · rw [h2]; exact h.name
    · rw [h2]; exact h.named
    · rw [h2]; exact h.only
theorem dn_part (B base : Nat) (m : MgV) (r : RdM) (s : ByteArray) (w : World) (h : RdIs 49 w B base m r) (hs : s.size ≤ 65536) :
    Calls Tryz.prog 75 #[.pointer (some ⟨B, 0, none⟩), .string s] w fun e w' => PartQ B base w (nameM m s.data.toList) e w' := by
  refine (dn_any B r s w h.blk (by omega)).mono ?_
  intro e w' q
  have mm : ∀ {w' : World}, Mod (fun k => k = B) w w' → Mod (fun k => k = B ∨ base ≤ k) w w' := fun n => n.mono (fun _ _ x => .inl x)
  cases ht : nameM m s.data.toList with
  | error k =>
    rw [nameM_no h.named ht] at q
    obtain ⟨rfl, n⟩ := q
    exact PartQ.no rfl (mm n)
  | ok m' =>
    obtain ⟨h1, h2⟩ := nameM_yes h.named ht
    rw [h1] at q
    obtain ⟨rfl, hb, n⟩ := q
    refine PartQ.yes rfl (h.turn n hb rfl rfl rfl rfl ?_ ?_ ?_ ?_ ?_ ?_ rfl ?_ ?_) (mm n)
    · rw [h2]
    · rw [h2]
    · rw [h2]
    · rw [h2]
    · rw [h2]; exact h.old
    · rw [h2]; exact h.new
    · rw [h2]
    · rw [h2]; exact h.only
theorem ptr3_any (B : Nat) (w : World) : Calls Tryz.prog 76 #[.pointer (some ⟨B, 0, none⟩)] w fun e w' => e = .returned (.pointer (some ⟨B, 3, none⟩)) ∧ w = w' := by
  go_enter Tryz.func76, Tryz.ntmps76
  go_wp2
  go_ret
  exact ⟨rfl, rfl⟩
theorem ptr4_any (B : Nat) (w : World) : Calls Tryz.prog 77 #[.pointer (some ⟨B, 0, none⟩)] w fun e w' => e = .returned (.pointer (some ⟨B, 5, none⟩)) ∧ w = w' := by
  go_enter Tryz.func77, Tryz.ntmps77
  go_wp2
  go_ret
  exact ⟨rfl, rfl⟩
theorem textP_none {l : List ByteArray} {s : List UInt8} (h : loose s = none) : textP l s = .error 2 := by unfold textP; rw [h]
theorem textP_bad {l : List ByteArray} {s x : List UInt8} (h : loose s = some x) (hx : x = [] ∨ 200 < x.length) : textP l s = .error 2 := by unfold textP; rw [h]; simp only; rw [if_pos hx]
theorem textP_full {l : List ByteArray} {s x : List UInt8} (h : loose s = some x) (hx : ¬ (x = [] ∨ 200 < x.length)) (hl : 10 ≤ l.length) : textP l s = .error 4 := by unfold textP; rw [h]; simp only; rw [if_neg hx, if_pos hl]
theorem textP_yes {l : List ByteArray} {s x : List UInt8} (h : loose s = some x) (hx : ¬ (x = [] ∨ 200 < x.length)) (hl : ¬ 10 ≤ l.length) : textP l s = .ok (l ++ [mkB x]) := by unfold textP; rw [h]; simp only; rw [if_neg hx, if_neg hl]
set_option maxRecDepth 100000 in
set_option maxHeartbeats 4000000 in
theorem tr_part (B base x : Nat) (m : MgV) (r : RdM) (s : ByteArray) (w : World) (h : RdIs 49 w B base m r) (hx : Blk w x #[.func (.func 76) #[] #[]] 97) (hs : s.size ≤ 65536) (hbs : base ≤ w.heap.size) :
    Calls Tryz.prog 71 #[.pointer (some ⟨B, 0, none⟩), .string s, .pointer (some ⟨x, 0, none⟩)] w fun e w' => PartQ B base w (trM m s.data.toList) e w' := by
  have H := hid h
  have HX := hid hx
  have HUN := hid (unescaped_any s w (by omega))
  have HMM : Hid (∀ W, New w W → Mod (fun k => k = B ∨ base ≤ k) w W) := hid (fun W n => New.mod n)
  have HE := hid (show ∀ k, textP m.tr s.data.toList = .error k → trM m s.data.toList = .error k from fun k q => by unfold trM; rw [q])
  have HK := hid (show ∀ l, textP m.tr s.data.toList = .ok l → trM m s.data.toList = .ok { m with tr := l } from fun l q => by unfold trM; rw [q])
  have HL := hid (fun t q => loose_len _ s.data.toList (Nat.le_refl _) t q)
  have hlen : s.data.toList.length = s.size := by rw [Array.length_toList]; rfl
  obtain ⟨X, hX⟩ : ∃ X, X = trM m s.data.toList := ⟨_, rfl⟩
  rw [← hX] at HE HK ⊢
  clear h hx hX
  cases hl : loose s.data.toList with
  | none =>
    rw [hl, hexR] at HUN
    have HXN := hid (HE.out _ (textP_none hl))
    clear hl
    go_enter Tryz.func71, Tryz.ntmps71
    go_wp2_with fail
    refine HUN.out.mono ?_
    rintro e w1 ⟨rfl, n1⟩
    have N1 := hid n1
    clear n1
    go_wp2
    exact ⟨rfl, PartQ.no HXN.out (HMM.out _ N1.out)⟩
  | some t =>
    rw [hl, hexR] at HUN
    have hle := HL.out t hl
    have hTs : (⟨t.toArray⟩ : ByteArray).size = t.length := size_list t
    have HTD := hid (show (⟨t.toArray⟩ : ByteArray) = mkB t from rfl)
    have HTX := hid (fun W => text_any (⟨t.toArray⟩ : ByteArray) W)
    obtain ⟨T, hT⟩ : ∃ T : ByteArray, T = ⟨t.toArray⟩ := ⟨_, rfl⟩
    rw [← hT] at HUN hTs HTX HTD
    clear hT
    by_cases hbad : t = [] ∨ 200 < t.length
    · have HXN := hid (HE.out _ (textP_bad hl hbad))
      have htm : textM T = false := by
        unfold textM
        rw [Bool.and_eq_false_iff, decide_eq_false_iff_not, decide_eq_false_iff_not]
        rcases hbad with q | q
        · left; rw [hTs, q]; simp
        · right; omega
      rw [htm] at HTX
      clear hl hbad htm hTs
      go_enter Tryz.func71, Tryz.ntmps71
      go_wp2_with fail
      refine HUN.out.mono ?_
      rintro e w1 ⟨rfl, n1⟩
      have N1 := hid n1
      clear n1
      go_wp2_with fail
      refine (HTX.out _).mono ?_
      rintro e w3 ⟨rfl, rfl⟩
      go_wp2_with fail
      refine (need_no 2 _).mono ?_
      rintro e w3 ⟨rfl, rfl⟩
      go_wp2
      exact ⟨rfl, PartQ.no HXN.out (HMM.out _ N1.out)⟩
    · have htm : textM T = true := by
        unfold textM
        rw [Bool.and_eq_true, decide_eq_true_eq, decide_eq_true_eq]
        have : t.length ≠ 0 := fun q => hbad (.inl (List.eq_nil_of_length_eq_zero q))
        omega
      have hT200 : T.size ≤ 200 := by omega
      rw [htm] at HTX
      clear htm
      by_cases hfull : 10 ≤ m.tr.length
      · have HXN := hid (HE.out _ (textP_full hl hbad hfull))
        clear hl hbad hTs
        go_enter Tryz.func71, Tryz.ntmps71
        go_wp2_with fail
        refine HUN.out.mono ?_
        rintro e w1 ⟨rfl, n1⟩
        have N1 := hid n1
        have H1 := hid (H.out.next n1)
        have x0 := (New.blk n1 HX.out).cellv 0 rfl
        have O1 : Hid (OwnS w1 base r.tr m.tr) := hid ⟨H1.out.tr, H1.out.trs⟩
        have b3 : w1.cell? ⟨B, 3, none⟩ = some r.tr := H1.out.blk.cellv 3 rfl
        clear n1
        go_wp2_with fail
        refine (HTX.out _).mono ?_
        rintro e w3 ⟨rfl, rfl⟩
        go_wp2_with fail
        refine (need_yes 2 _).mono ?_
        rintro e w3 ⟨rfl, rfl⟩
        go_wp2_with fail
        refine (ptr3_any B _).mono ?_
        rintro e w3 ⟨rfl, rfl⟩
        go_wp2_with fail
        refine (added_no base _ _ _ _ O1.out hfull).mono ?_
        rintro e w3 ⟨rfl, rfl⟩
        go_wp2
        exact ⟨rfl, PartQ.no HXN.out (HMM.out _ N1.out)⟩
      · have HXN := hid (HK.out _ (textP_yes hl hbad hfull))
        rw [← HTD.out] at HXN
        clear hl hbad hTs
        go_enter Tryz.func71, Tryz.ntmps71
        go_wp2_with fail
        refine HUN.out.mono ?_
        rintro e w1 ⟨rfl, n1⟩
        have N1 := hid n1
        have H1 := hid (H.out.next n1)
        have x0 := (New.blk n1 HX.out).cellv 0 rfl
        have O1 : Hid (OwnS w1 base r.tr m.tr) := hid ⟨H1.out.tr, H1.out.trs⟩
        have b3 : w1.cell? ⟨B, 3, none⟩ = some r.tr := H1.out.blk.cellv 3 rfl
        clear n1
        go_wp2_with fail
        refine (HTX.out _).mono ?_
        rintro e w3 ⟨rfl, rfl⟩
        go_wp2_with fail
        refine (need_yes 2 _).mono ?_
        rintro e w3 ⟨rfl, rfl⟩
        go_wp2_with fail
        refine (ptr3_any B _).mono ?_
        rintro e w3 ⟨rfl, rfl⟩
        go_wp2_with fail
        refine (added_yes base _ _ T _ O1.out (by omega) (by unfold maxLen; omega) (Nat.le_trans hbs N1.out.size)).mono ?_
        rintro e w2 ⟨o, rfl, ho, hm, hob⟩
        obtain ⟨oa, oc, hof⟩ := ho.form
        rw [List.length_append, List.length_singleton] at hof
        subst hof
        have hR := RdIs.trPut H1.out hm ho hob
        have hB2 := hm.blk H1.out.blk (fun q => by have := (rowBlock H1.out.tr q).1; have := H1.out.low; omega)
        have bc : w2.cell? ⟨B, 3, none⟩ = some r.tr := hB2.cellv 3 rfl
        have bl := hB2.lt
        have bf := hB2.frz 3
        have HR := hid hR
        have HM2 : Hid (Mod (fun k => k = B ∨ base ≤ k) w w2) := hid ((HMM.out _ N1.out).trans (hm.mono (fun k _ q => .inr (rowBlock H1.out.tr q).1)))
        clear ho hm hob hR hB2
        go_wp2
        go_end0
        exact PartQ.yes HXN.out HR.out (HM2.out.set _ _ (.inl (.inl rfl)))
set_option maxRecDepth 100000 in
set_option maxHeartbeats 4000000 in
theorem ws_part (B base x : Nat) (m : MgV) (r : RdM) (s : ByteArray) (w : World) (h : RdIs 49 w B base m r) (hx : Blk w x #[.func (.func 77) #[] #[]] 97) (hs : s.size ≤ 65536) (hbs : base ≤ w.heap.size) :
    Calls Tryz.prog 71 #[.pointer (some ⟨B, 0, none⟩), .string s, .pointer (some ⟨x, 0, none⟩)] w fun e w' => PartQ B base w (wsM m s.data.toList) e w' := by
  have H := hid h
  have HX := hid hx
  have HUN := hid (unescaped_any s w (by omega))
  have HMM : Hid (∀ W, New w W → Mod (fun k => k = B ∨ base ≤ k) w W) := hid (fun W n => New.mod n)
  have HE := hid (show ∀ k, textP m.ws s.data.toList = .error k → wsM m s.data.toList = .error k from fun k q => by unfold wsM; rw [q])
  have HK := hid (show ∀ l, textP m.ws s.data.toList = .ok l → wsM m s.data.toList = .ok { m with ws := l } from fun l q => by unfold wsM; rw [q])
  have HL := hid (fun t q => loose_len _ s.data.toList (Nat.le_refl _) t q)
  have hlen : s.data.toList.length = s.size := by rw [Array.length_toList]; rfl
  obtain ⟨X, hX⟩ : ∃ X, X = wsM m s.data.toList := ⟨_, rfl⟩
  rw [← hX] at HE HK ⊢
  clear h hx hX
  cases hl : loose s.data.toList with
  | none =>
    rw [hl, hexR] at HUN
    have HXN := hid (HE.out _ (textP_none hl))
    clear hl
    go_enter Tryz.func71, Tryz.ntmps71
    go_wp2_with fail
    refine HUN.out.mono ?_
    rintro e w1 ⟨rfl, n1⟩
    have N1 := hid n1
    clear n1
    go_wp2
    exact ⟨rfl, PartQ.no HXN.out (HMM.out _ N1.out)⟩
  | some t =>
    rw [hl, hexR] at HUN
    have hle := HL.out t hl
    have hTs : (⟨t.toArray⟩ : ByteArray).size = t.length := size_list t
    have HTD := hid (show (⟨t.toArray⟩ : ByteArray) = mkB t from rfl)
    have HTX := hid (fun W => text_any (⟨t.toArray⟩ : ByteArray) W)
    obtain ⟨T, hT⟩ : ∃ T : ByteArray, T = ⟨t.toArray⟩ := ⟨_, rfl⟩
    rw [← hT] at HUN hTs HTX HTD
    clear hT
    by_cases hbad : t = [] ∨ 200 < t.length
    · have HXN := hid (HE.out _ (textP_bad hl hbad))
      have htm : textM T = false := by
        unfold textM
        rw [Bool.and_eq_false_iff, decide_eq_false_iff_not, decide_eq_false_iff_not]
        rcases hbad with q | q
        · left; rw [hTs, q]; simp
        · right; omega
      rw [htm] at HTX
      clear hl hbad htm hTs
      go_enter Tryz.func71, Tryz.ntmps71
      go_wp2_with fail
      refine HUN.out.mono ?_
      rintro e w1 ⟨rfl, n1⟩
      have N1 := hid n1
      clear n1
      go_wp2_with fail
      refine (HTX.out _).mono ?_
      rintro e w3 ⟨rfl, rfl⟩
      go_wp2_with fail
      refine (need_no 2 _).mono ?_
      rintro e w3 ⟨rfl, rfl⟩
      go_wp2
      exact ⟨rfl, PartQ.no HXN.out (HMM.out _ N1.out)⟩
    · have htm : textM T = true := by
        unfold textM
        rw [Bool.and_eq_true, decide_eq_true_eq, decide_eq_true_eq]
        have : t.length ≠ 0 := fun q => hbad (.inl (List.eq_nil_of_length_eq_zero q))
        omega
      have hT200 : T.size ≤ 200 := by omega
      rw [htm] at HTX
      clear htm
      by_cases hfull : 10 ≤ m.ws.length
      · have HXN := hid (HE.out _ (textP_full hl hbad hfull))
        clear hl hbad hTs
        go_enter Tryz.func71, Tryz.ntmps71
        go_wp2_with fail
        refine HUN.out.mono ?_
        rintro e w1 ⟨rfl, n1⟩
        have N1 := hid n1
        have H1 := hid (H.out.next n1)
        have x0 := (New.blk n1 HX.out).cellv 0 rfl
        have O1 : Hid (OwnS w1 base r.ws m.ws) := hid ⟨H1.out.ws, H1.out.wss⟩
        have b3 : w1.cell? ⟨B, 5, none⟩ = some r.ws := H1.out.blk.cellv 5 rfl
        clear n1
        go_wp2_with fail
        refine (HTX.out _).mono ?_
        rintro e w3 ⟨rfl, rfl⟩
        go_wp2_with fail
        refine (need_yes 2 _).mono ?_
        rintro e w3 ⟨rfl, rfl⟩
        go_wp2_with fail
        refine (ptr4_any B _).mono ?_
        rintro e w3 ⟨rfl, rfl⟩
        go_wp2_with fail
        refine (added_no base _ _ _ _ O1.out hfull).mono ?_
        rintro e w3 ⟨rfl, rfl⟩
        go_wp2
        exact ⟨rfl, PartQ.no HXN.out (HMM.out _ N1.out)⟩
      · have HXN := hid (HK.out _ (textP_yes hl hbad hfull))
        rw [← HTD.out] at HXN
        clear hl hbad hTs
        go_enter Tryz.func71, Tryz.ntmps71
        go_wp2_with fail
        refine HUN.out.mono ?_
        rintro e w1 ⟨rfl, n1⟩
        have N1 := hid n1
        have H1 := hid (H.out.next n1)
        have x0 := (New.blk n1 HX.out).cellv 0 rfl
        have O1 : Hid (OwnS w1 base r.ws m.ws) := hid ⟨H1.out.ws, H1.out.wss⟩
        have b3 : w1.cell? ⟨B, 5, none⟩ = some r.ws := H1.out.blk.cellv 5 rfl
        clear n1
        go_wp2_with fail
        refine (HTX.out _).mono ?_
        rintro e w3 ⟨rfl, rfl⟩
        go_wp2_with fail
        refine (need_yes 2 _).mono ?_
        rintro e w3 ⟨rfl, rfl⟩
        go_wp2_with fail
        refine (ptr4_any B _).mono ?_
        rintro e w3 ⟨rfl, rfl⟩
        go_wp2_with fail
        refine (added_yes base _ _ T _ O1.out (by omega) (by unfold maxLen; omega) (Nat.le_trans hbs N1.out.size)).mono ?_
        rintro e w2 ⟨o, rfl, ho, hm, hob⟩
        obtain ⟨oa, oc, hof⟩ := ho.form
        rw [List.length_append, List.length_singleton] at hof
        subst hof
        have hR := RdIs.wsPut H1.out hm ho hob
        have hB2 := hm.blk H1.out.blk (fun q => by have := (rowBlock H1.out.ws q).1; have := H1.out.low; omega)
        have bc : w2.cell? ⟨B, 5, none⟩ = some r.ws := hB2.cellv 5 rfl
        have bl := hB2.lt
        have bf := hB2.frz 5
        have HR := hid hR
        have HM2 : Hid (Mod (fun k => k = B ∨ base ≤ k) w w2) := hid ((HMM.out _ N1.out).trans (hm.mono (fun k _ q => .inr (rowBlock H1.out.ws q).1)))
        clear ho hm hob hR hB2
        go_wp2
        go_end0
        exact PartQ.yes HXN.out HR.out (HM2.out.set _ _ (.inl (.inl rfl)))
end Go.Proofs.YtbgmkplpolgebaaGreatDoor
