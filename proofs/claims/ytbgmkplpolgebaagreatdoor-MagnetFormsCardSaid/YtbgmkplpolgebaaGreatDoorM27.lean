/-
  Several texts in one, in their build order. The walks of the functions that read a magnet's parts (package magnet), told of a reader with its lists. Conditions: the reader lies as told; the text is small; the library's variables are as laid. The walks of the functions that read a magnet's addresses and runs (package magnet). Conditions: the reader lies as told; the text is small; the library's variables are as laid.
-/
import Derived.Test.YtbgmkplpolgebaaGreatDoorM23
import Derived.Test.YtbgmkplpolgebaaGreatDoorM26
import Derived.Test.YtbgmkplpolgebaaGreatDoorM21
import Derived.Test.YtbgmkplpolgebaaGreatDoorM13
namespace Go.Proofs.YtbgmkplpolgebaaGreatDoor
set_option linter.unusedSimpArgs false
set_option linter.unusedVariables false
open Go.RowKit Go.Shelf

def PartE : Except Int MgV → Ending
  | .ok _ => .returned (.tuple #[])
  | .error k => .panicked (toldM k)
def PartQ (B base : Nat) (w : World) (x : Except Int MgV) (e : Ending) (w' : World) : Prop := e = PartE x ∧ (∀ m, x = .ok m → ∃ r, RdIs 49 w' B base m r) ∧ Mod (fun k => k = B ∨ base ≤ k) w w'
theorem PartQ.no {B base : Nat} {w w' : World} {x : Except Int MgV} {k : Int} (h : x = .error k) (m : Mod (fun k => k = B ∨ base ≤ k) w w') : PartQ B base w x (.panicked (toldM k)) w' := by
  subst h
  exact ⟨rfl, fun _ q => (by cases q), m⟩
theorem PartQ.yes {B base : Nat} {w w' : World} {x : Except Int MgV} {m : MgV} {r : RdM} (h : x = .ok m) (hr : RdIs 49 w' B base m r) (n : Mod (fun k => k = B ∨ base ≤ k) w w') : PartQ B base w x (.returned (.tuple #[])) w' := by
  subst h
  exact ⟨rfl, fun m' q => (by injection q with q; subst q; exact ⟨r, hr⟩), n⟩
theorem xt_part (B base : Nat) (m : MgV) (r : RdM) (s : ByteArray) (w : World) (h : RdIs 49 w B base m r) (hs : s.size ≤ 65536) :
    Calls Tryz.prog 74 #[.pointer (some ⟨B, 0, none⟩), .string s] w fun e w' => PartQ B base w (topM m s) e w' := by
  refine (topic_any B r s w h.blk hs).mono ?_
  intro e w' q
  have mm : ∀ {w' : World}, Mod (fun k => k = B) w w' → Mod (fun k => k = B ∨ base ≤ k) w w' := fun n => n.mono (fun _ _ x => .inl x)
  cases ht : topM m s with
  | error k =>
    rw [topM_no h.old h.new ht] at q
    obtain ⟨rfl, n⟩ := q
    exact PartQ.no rfl (mm n)
  | ok m' =>
    obtain ⟨h1, h2⟩ := topM_yes h.old h.new ht
    rw [h1] at q
    obtain ⟨rfl, hb, n⟩ := q
    refine PartQ.yes rfl (h.turn n hb rfl rfl rfl rfl ?_ ?_ ?_ ?_ rfl rfl ?_ ?_ ?_) (mm n)
    · rw [h2]
    · rw [h2]
    · rw [h2]
    · rw [h2]
    · rw [h2]; exact h.name
    · rw [h2]; exact h.named
    · rw [h2]; exact h.only
theorem dn_part (B base : Nat) (m : MgV) (r : RdM) (s : ByteArray) (w : World) (h : RdIs 49 w B base m r) (hs : s.size ≤ 65536) :
    Calls Tryz.prog 75 #[.pointer (some ⟨B, 0, none⟩), .string s] w fun e w' => PartQ B base w (nameM m s.data.toList) e w' := by
  refine (dn_any B r s w h.blk (by omega)).mono ?_
  intro e w' q
  have mm : ∀ {w' : World}, Mod (fun k => k = B) w w' → Mod (fun k => k = B ∨ base ≤ k) w w' := fun n => n.mono (fun _ _ x => .inl x)
  cases ht : nameM m s.data.toList with
  | error k =>
    rw [nameM_no h.named ht] at q
    obtain ⟨rfl, n⟩ := q
    exact PartQ.no rfl (mm n)
  | ok m' =>
    obtain ⟨h1, h2⟩ := nameM_yes h.named ht
    rw [h1] at q
    obtain ⟨rfl, hb, n⟩ := q
    refine PartQ.yes rfl (h.turn n hb rfl rfl rfl rfl ?_ ?_ ?_ ?_ ?_ ?_ rfl ?_ ?_) (mm n)
    · rw [h2]
    · rw [h2]
    · rw [h2]
    · rw [h2]
    · rw [h2]; exact h.old
    · rw [h2]; exact h.new
    · rw [h2]
    · rw [h2]; exact h.only
theorem ptr3_any (B : Nat) (w : World) : Calls Tryz.prog 76 #[.pointer (some ⟨B, 0, none⟩)] w fun e w' => e = .returned (.pointer (some ⟨B, 3, none⟩)) ∧ w = w' := by
  go_enter Tryz.func76, Tryz.ntmps76
  go_wp2
  go_ret
  exact ⟨rfl, rfl⟩
theorem ptr4_any (B : Nat) (w : World) : Calls Tryz.prog 77 #[.pointer (some ⟨B, 0, none⟩)] w fun e w' => e = .returned (.pointer (some ⟨B, 5, none⟩)) ∧ w = w' := by
  go_enter Tryz.func77, Tryz.ntmps77
  go_wp2
  go_ret
  exact ⟨rfl, rfl⟩
theorem textP_none {l : List ByteArray} {s : List UInt8} (h : loose s = none) : textP l s = .error 2 := by unfold textP; rw [h]
theorem textP_bad {l : List ByteArray} {s x : List UInt8} (h : loose s = some x) (hx : x = [] ∨ 200 < x.length) : textP l s = .error 2 := by unfold textP; rw [h]; simp only; rw [if_pos hx]
theorem textP_full {l : List ByteArray} {s x : List UInt8} (h : loose s = some x) (hx : ¬ (x = [] ∨ 200 < x.length)) (hl : 10 ≤ l.length) : textP l s = .error 4 := by unfold textP; rw [h]; simp only; rw [if_neg hx, if_pos hl]
theorem textP_yes {l : List ByteArray} {s x : List UInt8} (h : loose s = some x) (hx : ¬ (x = [] ∨ 200 < x.length)) (hl : ¬ 10 ≤ l.length) : textP l s = .ok (l ++ [mkB x]) := by unfold textP; rw [h]; simp only; rw [if_neg hx, if_neg hl]
set_option maxRecDepth 100000 in
set_option maxHeartbeats 4000000 in
theorem tr_part (B base x : Nat) (m : MgV) (r : RdM) (s : ByteArray) (w : World) (h : RdIs 49 w B base m r) (hx : Blk w x #[.func (.func 76) #[] #[]] 97) (hs : s.size ≤ 65536) (hbs : base ≤ w.heap.size) :
    Calls Tryz.prog 71 #[.pointer (some ⟨B, 0, none⟩), .string s, .pointer (some ⟨x, 0, none⟩)] w fun e w' => PartQ B base w (trM m s.data.toList) e w' := by
  have H := hid h
  have HX := hid hx
  have HUN := hid (unescaped_any s w (by omega))
  have HMM : Hid (∀ W, New w W → Mod (fun k => k = B ∨ base ≤ k) w W) := hid (fun W n => New.mod n)
  have HE := hid (show ∀ k, textP m.tr s.data.toList = .error k → trM m s.data.toList = .error k from fun k q => by unfold trM; rw [q])
  have HK := hid (show ∀ l, textP m.tr s.data.toList = .ok l → trM m s.data.toList = .ok { m with tr := l } from fun l q => by unfold trM; rw [q])
  have HL := hid (fun t q => loose_len _ s.data.toList (Nat.le_refl _) t q)
  have hlen : s.data.toList.length = s.size := by rw [Array.length_toList]; rfl
  obtain ⟨X, hX⟩ : ∃ X, X = trM m s.data.toList := ⟨_, rfl⟩
  rw [← hX] at HE HK ⊢
  clear h hx hX
  cases hl : loose s.data.toList with
  | none =>
    rw [hl, hexR] at HUN
    have HXN := hid (HE.out _ (textP_none hl))
    clear hl
    go_enter Tryz.func71, Tryz.ntmps71
    go_wp2_with fail
    refine HUN.out.mono ?_
    rintro e w1 ⟨rfl, n1⟩
    have N1 := hid n1
    clear n1
    go_wp2
    exact ⟨rfl, PartQ.no HXN.out (HMM.out _ N1.out)⟩
  | some t =>
    rw [hl, hexR] at HUN
    have hle := HL.out t hl
    have hTs : (⟨t.toArray⟩ : ByteArray).size = t.length := size_list t
    have HTD := hid (show (⟨t.toArray⟩ : ByteArray) = mkB t from rfl)
    have HTX := hid (fun W => text_any (⟨t.toArray⟩ : ByteArray) W)
    obtain ⟨T, hT⟩ : ∃ T : ByteArray, T = ⟨t.toArray⟩ := ⟨_, rfl⟩
    rw [← hT] at HUN hTs HTX HTD
    clear hT
    by_cases hbad : t = [] ∨ 200 < t.length
    · have HXN := hid (HE.out _ (textP_bad hl hbad))
      have htm : textM T = false := by
        unfold textM
        rw [Bool.and_eq_false_iff, decide_eq_false_iff_not, decide_eq_false_iff_not]
        rcases hbad with q | q
        · left; rw [hTs, q]; simp
        · right; omega
      rw [htm] at HTX
      clear hl hbad htm hTs
      go_enter Tryz.func71, Tryz.ntmps71
      go_wp2_with fail
      refine HUN.out.mono ?_
      rintro e w1 ⟨rfl, n1⟩
      have N1 := hid n1
      clear n1
      go_wp2_with fail
      refine (HTX.out _).mono ?_
      rintro e w3 ⟨rfl, rfl⟩
      go_wp2_with fail
      refine (need_no 2 _).mono ?_
      rintro e w3 ⟨rfl, rfl⟩
      go_wp2
      exact ⟨rfl, PartQ.no HXN.out (HMM.out _ N1.out)⟩
    · have htm : textM T = true := by
        unfold textM
        rw [Bool.and_eq_true, decide_eq_true_eq, decide_eq_true_eq]
        have : t.length ≠ 0 := fun q => hbad (.inl (List.eq_nil_of_length_eq_zero q))
        omega
      have hT200 : T.size ≤ 200 := by omega
      rw [htm] at HTX
      clear htm
      by_cases hfull : 10 ≤ m.tr.length
      · have HXN := hid (HE.out _ (textP_full hl hbad hfull))
        clear hl hbad hTs
        go_enter Tryz.func71, Tryz.ntmps71
        go_wp2_with fail
        refine HUN.out.mono ?_
        rintro e w1 ⟨rfl, n1⟩
        have N1 := hid n1
        have H1 := hid (H.out.next n1)
        have x0 := (New.blk n1 HX.out).cellv 0 rfl
        have O1 : Hid (OwnS w1 base r.tr m.tr) := hid ⟨H1.out.tr, H1.out.trs⟩
        have b3 : w1.cell? ⟨B, 3, none⟩ = some r.tr := H1.out.blk.cellv 3 rfl
        clear n1
        go_wp2_with fail
        refine (HTX.out _).mono ?_
        rintro e w3 ⟨rfl, rfl⟩
        go_wp2_with fail
        refine (need_yes 2 _).mono ?_
        rintro e w3 ⟨rfl, rfl⟩
        go_wp2_with fail
        refine (ptr3_any B _).mono ?_
        rintro e w3 ⟨rfl, rfl⟩
        go_wp2_with fail
        refine (added_no base _ _ _ _ O1.out hfull).mono ?_
        rintro e w3 ⟨rfl, rfl⟩
        go_wp2
        exact ⟨rfl, PartQ.no HXN.out (HMM.out _ N1.out)⟩
      · have HXN := hid (HK.out _ (textP_yes hl hbad hfull))
        rw [← HTD.out] at HXN
        clear hl hbad hTs
        go_enter Tryz.func71, Tryz.ntmps71
        go_wp2_with fail
        refine HUN.out.mono ?_
        rintro e w1 ⟨rfl, n1⟩
        have N1 := hid n1
        have H1 := hid (H.out.next n1)
        have x0 := (New.blk n1 HX.out).cellv 0 rfl
        have O1 : Hid (OwnS w1 base r.tr m.tr) := hid ⟨H1.out.tr, H1.out.trs⟩
        have b3 : w1.cell? ⟨B, 3, none⟩ = some r.tr := H1.out.blk.cellv 3 rfl
        clear n1
        go_wp2_with fail
        refine (HTX.out _).mono ?_
        rintro e w3 ⟨rfl, rfl⟩
        go_wp2_with fail
        refine (need_yes 2 _).mono ?_
        rintro e w3 ⟨rfl, rfl⟩
        go_wp2_with fail
        refine (ptr3_any B _).mono ?_
        rintro e w3 ⟨rfl, rfl⟩
        go_wp2_with fail
        refine (added_yes base _ _ T _ O1.out (by omega) (by unfold maxLen; omega) (Nat.le_trans hbs N1.out.size)).mono ?_
        rintro e w2 ⟨o, rfl, ho, hm, hob⟩
        obtain ⟨oa, oc, hof⟩ := ho.form
        rw [List.length_append, List.length_singleton] at hof
        subst hof
        have hR := RdIs.trPut H1.out hm ho hob
        have hB2 := hm.blk H1.out.blk (fun q => by have := (rowBlock H1.out.tr q).1; have := H1.out.low; omega)
        have bc : w2.cell? ⟨B, 3, none⟩ = some r.tr := hB2.cellv 3 rfl
        have bl := hB2.lt
        have bf := hB2.frz 3
        have HR := hid hR
        have HM2 : Hid (Mod (fun k => k = B ∨ base ≤ k) w w2) := hid ((HMM.out _ N1.out).trans (hm.mono (fun k _ q => .inr (rowBlock H1.out.tr q).1)))
        clear ho hm hob hR hB2
        go_wp2
        go_end0
        exact PartQ.yes HXN.out HR.out (HM2.out.set _ _ (.inl (.inl rfl)))
set_option maxRecDepth 100000 in
set_option maxHeartbeats 4000000 in
theorem ws_part (B base x : Nat) (m : MgV) (r : RdM) (s : ByteArray) (w : World) (h : RdIs 49 w B base m r) (hx : Blk w x #[.func (.func 77) #[] #[]] 97) (hs : s.size ≤ 65536) (hbs : base ≤ w.heap.size) :
    Calls Tryz.prog 71 #[.pointer (some ⟨B, 0, none⟩), .string s, .pointer (some ⟨x, 0, none⟩)] w fun e w' => PartQ B base w (wsM m s.data.toList) e w' := by
  have H := hid h
  have HX := hid hx
  have HUN := hid (unescaped_any s w (by omega))
  have HMM : Hid (∀ W, New w W → Mod (fun k => k = B ∨ base ≤ k) w W) := hid (fun W n => New.mod n)
  have HE := hid (show ∀ k, textP m.ws s.data.toList = .error k → wsM m s.data.toList = .error k from fun k q => by unfold wsM; rw [q])
  have HK := hid (show ∀ l, textP m.ws s.data.toList = .ok l → wsM m s.data.toList = .ok { m with ws := l } from fun l q => by unfold wsM; rw [q])
  have HL := hid (fun t q => loose_len _ s.data.toList (Nat.le_refl _) t q)
  have hlen : s.data.toList.length = s.size := by rw [Array.length_toList]; rfl
  obtain ⟨X, hX⟩ : ∃ X, X = wsM m s.data.toList := ⟨_, rfl⟩
  rw [← hX] at HE HK ⊢
  clear h hx hX
  cases hl : loose s.data.toList with
  | none =>
    rw [hl, hexR] at HUN
    have HXN := hid (HE.out _ (textP_none hl))
    clear hl
    go_enter Tryz.func71, Tryz.ntmps71
    go_wp2_with fail
    refine HUN.out.mono ?_
    rintro e w1 ⟨rfl, n1⟩
    have N1 := hid n1
    clear n1
    go_wp2
    exact ⟨rfl, PartQ.no HXN.out (HMM.out _ N1.out)⟩
  | some t =>
    rw [hl, hexR] at HUN
    have hle := HL.out t hl
    have hTs : (⟨t.toArray⟩ : ByteArray).size = t.length := size_list t
    have HTD := hid (show (⟨t.toArray⟩ : ByteArray) = mkB t from rfl)
    have HTX := hid (fun W => text_any (⟨t.toArray⟩ : ByteArray) W)
    obtain ⟨T, hT⟩ : ∃ T : ByteArray, T = ⟨t.toArray⟩ := ⟨_, rfl⟩
    rw [← hT] at HUN hTs HTX HTD
    clear hT
    by_cases hbad : t = [] ∨ 200 < t.length
    · have HXN := hid (HE.out _ (textP_bad hl hbad))
      have htm : textM T = false := by
        unfold textM
        rw [Bool.and_eq_false_iff, decide_eq_false_iff_not, decide_eq_false_iff_not]
        rcases hbad with q | q
        · left; rw [hTs, q]; simp
        · right; omega
      rw [htm] at HTX
      clear hl hbad htm hTs
      go_enter Tryz.func71, Tryz.ntmps71
      go_wp2_with fail
      refine HUN.out.mono ?_
      rintro e w1 ⟨rfl, n1⟩
      have N1 := hid n1
      clear n1
      go_wp2_with fail
      refine (HTX.out _).mono ?_
      rintro e w3 ⟨rfl, rfl⟩
      go_wp2_with fail
      refine (need_no 2 _).mono ?_
      rintro e w3 ⟨rfl, rfl⟩
      go_wp2
      exact ⟨rfl, PartQ.no HXN.out (HMM.out _ N1.out)⟩
    · have htm : textM T = true := by
        unfold textM
        rw [Bool.and_eq_true, decide_eq_true_eq, decide_eq_true_eq]
        have : t.length ≠ 0 := fun q => hbad (.inl (List.eq_nil_of_length_eq_zero q))
        omega
      have hT200 : T.size ≤ 200 := by omega
      rw [htm] at HTX
      clear htm
      by_cases hfull : 10 ≤ m.ws.length
      · have HXN := hid (HE.out _ (textP_full hl hbad hfull))
        clear hl hbad hTs
        go_enter Tryz.func71, Tryz.ntmps71
        go_wp2_with fail
        refine HUN.out.mono ?_
        rintro e w1 ⟨rfl, n1⟩
        have N1 := hid n1
        have H1 := hid (H.out.next n1)
        have x0 := (New.blk n1 HX.out).cellv 0 rfl
        have O1 : Hid (OwnS w1 base r.ws m.ws) := hid ⟨H1.out.ws, H1.out.wss⟩
        have b3 : w1.cell? ⟨B, 5, none⟩ = some r.ws := H1.out.blk.cellv 5 rfl
        clear n1
        go_wp2_with fail
        refine (HTX.out _).mono ?_
        rintro e w3 ⟨rfl, rfl⟩
        go_wp2_with fail
        refine (need_yes 2 _).mono ?_
        rintro e w3 ⟨rfl, rfl⟩
        go_wp2_with fail
        refine (ptr4_any B _).mono ?_
        rintro e w3 ⟨rfl, rfl⟩
        go_wp2_with fail
        refine (added_no base _ _ _ _ O1.out hfull).mono ?_
        rintro e w3 ⟨rfl, rfl⟩
        go_wp2
        exact ⟨rfl, PartQ.no HXN.out (HMM.out _ N1.out)⟩
      · have HXN := hid (HK.out _ (textP_yes hl hbad hfull))
        rw [← HTD.out] at HXN
        clear hl hbad hTs
        go_enter Tryz.func71, Tryz.ntmps71
        go_wp2_with fail
        refine HUN.out.mono ?_
        rintro e w1 ⟨rfl, n1⟩
        have N1 := hid n1
        have H1 := hid (H.out.next n1)
        have x0 := (New.blk n1 HX.out).cellv 0 rfl
        have O1 : Hid (OwnS w1 base r.ws m.ws) := hid ⟨H1.out.ws, H1.out.wss⟩
        have b3 : w1.cell? ⟨B, 5, none⟩ = some r.ws := H1.out.blk.cellv 5 rfl
        clear n1
        go_wp2_with fail
        refine (HTX.out _).mono ?_
        rintro e w3 ⟨rfl, rfl⟩
        go_wp2_with fail
        refine (need_yes 2 _).mono ?_
        rintro e w3 ⟨rfl, rfl⟩
        go_wp2_with fail
        refine (ptr4_any B _).mono ?_
        rintro e w3 ⟨rfl, rfl⟩
        go_wp2_with fail
        refine (added_yes base _ _ T _ O1.out (by omega) (by unfold maxLen; omega) (Nat.le_trans hbs N1.out.size)).mono ?_
        rintro e w2 ⟨o, rfl, ho, hm, hob⟩
        obtain ⟨oa, oc, hof⟩ := ho.form
        rw [List.length_append, List.length_singleton] at hof
        subst hof
        have hR := RdIs.wsPut H1.out hm ho hob
        have hB2 := hm.blk H1.out.blk (fun q => by have := (rowBlock H1.out.ws q).1; have := H1.out.low; omega)
        have bc : w2.cell? ⟨B, 5, none⟩ = some r.ws := hB2.cellv 5 rfl
        have bl := hB2.lt
        have bf := hB2.frz 5
        have HR := hid hR
        have HM2 : Hid (Mod (fun k => k = B ∨ base ≤ k) w w2) := hid ((HMM.out _ N1.out).trans (hm.mono (fun k _ q => .inr (rowBlock H1.out.ws q).1)))
        clear ho hm hob hR hB2
        go_wp2
        go_end0
        exact PartQ.yes HXN.out HR.out (HM2.out.set _ _ (.inl (.inl rfl)))
end Go.Proofs.YtbgmkplpolgebaaGreatDoor

namespace Go.Proofs.YtbgmkplpolgebaaGreatDoor
set_option linter.unusedSimpArgs false
set_option linter.unusedVariables false
open Go.RowKit Go.Shelf

theorem peM_1 {m : MgV} {s : List UInt8} (h : loose s = none) : peM m s = .error 2 := by unfold peM; rw [h]
theorem peM_2 {m : MgV} {s x : List UInt8} (h : loose s = some x) (ha : aP x = none) : peM m s = .error 2 := by unfold peM; rw [h]; simp only; rw [ha]
theorem peM_3 {m : MgV} {s x : List UInt8} {a : AdrV} (h : loose s = some x) (ha : aP x = some a) (hl : 20 ≤ m.pe.length) : peM m s = .error 4 := by unfold peM; rw [h]; simp only; rw [ha]; simp only; rw [if_pos hl]
theorem peM_4 {m : MgV} {s x : List UInt8} {a : AdrV} (h : loose s = some x) (ha : aP x = some a) (hl : ¬ 20 ≤ m.pe.length) : peM m s = .ok { m with pe := m.pe ++ [a] } := by unfold peM; rw [h]; simp only; rw [ha]; simp only; rw [if_neg hl]
set_option maxRecDepth 100000 in
set_option maxHeartbeats 4000000 in
theorem pe_part (B base : Nat) (m : MgV) (r : RdM) (s : ByteArray) (w : World) (h : RdIs 49 w B base m r) (hs : s.size ≤ 65536) (hbs : base ≤ w.heap.size) (hv : VarP w) :
    Calls Tryz.prog 78 #[.pointer (some ⟨B, 0, none⟩), .string s] w fun e w' => PartQ B base w (peM m s.data.toList) e w' := by
  have H := hid h
  have HUN := hid (unescaped_any s w (by omega))
  have HMM : Hid (∀ W, New w W → Mod (fun k => k = B ∨ base ≤ k) w W) := hid (fun W n => New.mod n)
  have HL := hid (fun t q => loose_len _ s.data.toList (Nat.le_refl _) t q)
  have hlen : s.data.toList.length = s.size := by rw [Array.length_toList]; rfl
  have HV := hid hv
  have HSM := hs
  obtain ⟨X, hX⟩ : ∃ X, X = peM m s.data.toList := ⟨_, rfl⟩
  rw [← hX]
  have HXX := hid hX
  clear h hX hv
  cases hl : loose s.data.toList with
  | none =>
    rw [hl, hexR] at HUN
    have HXN := hid (HXX.out.trans (peM_1 hl))
    clear hl
    go_enter Tryz.func78, Tryz.ntmps78
    go_wp2_with fail
    refine HUN.out.mono ?_
    rintro e w1 ⟨rfl, n1⟩
    have N1 := hid n1
    clear n1
    go_wp2
    exact ⟨rfl, PartQ.no HXN.out (HMM.out _ N1.out)⟩
  | some t =>
    rw [hl, hexR] at HUN
    have hle := HL.out t hl
    have hTs : (⟨t.toArray⟩ : ByteArray).size = t.length := size_list t
    have HAP := hid (fun W (q : New w W) => aparse_any (mkB t) W (by rw [show (mkB t).size = t.length from size_list t]; omega) (HV.out.new q))
    rw [show (mkB t).data.toList = t from rfl] at HAP
    obtain ⟨T, hT⟩ : ∃ T : ByteArray, T = ⟨t.toArray⟩ := ⟨_, rfl⟩
    rw [show mkB t = T from hT.symm] at HAP
    rw [← hT] at HUN
    clear hT hTs
    cases ha : aP t with
    | none =>
      rw [ha, adrE] at HAP
      have HXN := hid (HXX.out.trans (peM_2 hl ha))
      clear hl ha
      go_enter Tryz.func78, Tryz.ntmps78
      go_wp2_with fail
      refine HUN.out.mono ?_
      rintro e w1 ⟨rfl, n1⟩
      have N1 := hid n1
      clear n1
      go_wp2_with fail
      refine (HAP.out _ N1.out).mono ?_
      rintro e w2 ⟨rfl, n2⟩
      have N2 := hid (N1.out.trans n2)
      clear n2
      go_wp2_with fail
      refine (need_no 2 _).mono ?_
      rintro e w3 ⟨rfl, rfl⟩
      go_wp2
      refine ⟨rfl, PartQ.no HXN.out (HMM.out _ ?_)⟩
      have q := N2.out
      have q2 := N2.out.size
      repeat (first | with_reducible exact q | with_reducible refine Mod.alloc ?_ _ | with_reducible refine Mod.drew ?_ | with_reducible refine Mod.drewN ?_ _ | (with_reducible refine Mod.set ?_ _ _ (by first | exact .inl rfl | (right; omega) | (right; simp; done) | (right; simp; omega) | (left; omega) | (left; simp; done) | (left; simp; omega))) | (with_reducible refine Mod.putObj ?_ _ _ (by first | exact .inl rfl | (right; omega) | (right; simp; done) | (right; simp; omega) | (left; omega) | (left; simp; done) | (left; simp; omega))))
    | some a =>
      rw [ha, adrE] at HAP
      by_cases hfull : 20 ≤ m.pe.length
      · have HXN := hid (HXX.out.trans (peM_3 hl ha hfull))
        clear hl ha
        go_enter Tryz.func78, Tryz.ntmps78
        go_wp2_with fail
        refine HUN.out.mono ?_
        rintro e w1 ⟨rfl, n1⟩
        have N1 := hid n1
        clear n1
        go_wp2_with fail
        refine (HAP.out _ N1.out).mono ?_
        rintro e w2 ⟨rfl, n2⟩
        have N2 := hid (N1.out.trans n2)
        clear n2
        go_wp2_with fail
        refine (need_yes 2 _).mono ?_
        rintro e w3 ⟨rfl, rfl⟩
        go_wp2_with fail
        refine name_worldA (p := fun W => Code.wp _ _ _ _ W) (fun W hW => ?_)
        have BXx : Blk W w2.heap.size #[.int .i64 a.fam, .string a.ip, .int .i64 a.port] 64 := by
          rw [hW]
          apply Blk.row
          · repeat (first | with_reducible exact HSM | (with_reducible apply Blk.newAt; (simp; done)) | with_reducible apply Blk.alloc | with_reducible apply Blk.drew | with_reducible apply Blk.drewN | with_reducible apply Blk.set | (with_reducible apply Blk.other; · first | (simp; done) | (simp; omega) | omega) | (with_reducible apply Blk.putObj; · first | (simp; done) | (simp; omega) | omega))
          · rfl
        have NWx : New w W := by
          rw [hW]
          have q := N2.out
          have q2 := N2.out.size
          repeat (first | with_reducible exact q | with_reducible refine Mod.alloc ?_ _ | with_reducible refine Mod.drew ?_ | with_reducible refine Mod.drewN ?_ _ | (with_reducible refine Mod.set ?_ _ _ (by first | exact .inl rfl | (right; omega) | (right; simp; done) | (right; simp; omega) | (left; omega) | (left; simp; done) | (left; simp; omega))) | (with_reducible refine Mod.putObj ?_ _ _ (by first | exact .inl rfl | (right; omega) | (right; simp; done) | (right; simp; omega) | (left; omega) | (left; simp; done) | (left; simp; omega))))
        have BX := hid BXx; have NW := hid NWx
        have hws : w2.heap.size < W.heap.size := BXx.lt
        clear hW BXx NWx
        have HW := hid (H.out.next NW.out)
        have x0 : W.drew.cell? ⟨w2.heap.size, 0, none⟩ = some (.int .i64 a.fam) := BX.out.cellv 0 rfl
        have x1 : W.drew.cell? ⟨w2.heap.size, 1, none⟩ = some (.string a.ip) := BX.out.cellv 1 rfl
        have x2 : W.drew.cell? ⟨w2.heap.size, 2, none⟩ = some (.int .i64 a.port) := BX.out.cellv 2 rfl
        have b4 : W.drew.cell? ⟨B, 4, none⟩ = some r.pe := HW.out.blk.cellv 4 rfl
        have OA : Hid (OwnA W.drew base r.pe m.pe) := hid (OwnA.new ⟨HW.out.pe⟩ (Mod.refl _ W).drew)
        refine wp_region_held_drew (S := (fun w' => w'.cell? ⟨w2.heap.size, 0, none⟩ = some (.int .i64 a.fam) ∧ w'.cell? ⟨w2.heap.size, 1, none⟩ = some (.string a.ip) ∧ w'.cell? ⟨w2.heap.size, 2, none⟩ = some (.int .i64 a.port))) (by kernel_rfl) ⟨x0, x1, x2⟩ (fun hHeld => ?_)
        refine tk (v := ?_) 0 ?_ ?_
        rotate_left
        · intro w hSw
          (try dsimp only at hSw)
          first | (go_simp; done) | (go_simp; with_reducible rfl) | with_reducible rfl
        simp only [Act.put, List.setIfInBounds_toArray, List.set_cons_zero, List.set_cons_succ]
        refine tk (v := ?_) 1 ?_ ?_
        rotate_left
        · intro w hSw
          (try dsimp only at hSw)
          first | (go_simp; done) | (go_simp; with_reducible rfl) | with_reducible rfl
        simp only [Act.put, List.setIfInBounds_toArray, List.set_cons_zero, List.set_cons_succ]
        refine tk (v := ?_) 2 ?_ ?_
        rotate_left
        · intro w hSw
          (try dsimp only at hSw)
          first | (go_simp; done) | (go_simp; with_reducible rfl) | with_reducible rfl
        simp only [Act.put, List.setIfInBounds_toArray, List.set_cons_zero, List.set_cons_succ]
        refine tk (v := ?_) 3 ?_ ?_
        rotate_left
        · intro w hSw
          (try dsimp only at hSw)
          first | (go_simp; done) | (go_simp; with_reducible rfl) | with_reducible rfl
        simp only [Act.put, List.setIfInBounds_toArray, List.set_cons_zero, List.set_cons_succ]
        refine tk (v := ?_) 4 ?_ ?_
        rotate_left
        · intro w hSw
          (try dsimp only at hSw)
          first | (go_simp; done) | (go_simp; with_reducible rfl) | with_reducible rfl
        simp only [Act.put, List.setIfInBounds_toArray, List.set_cons_zero, List.set_cons_succ]
        refine tk (v := ?_) 6 ?_ ?_
        rotate_left
        · intro w hSw
          (try dsimp only at hSw)
          first | (go_simp; done) | (go_simp; with_reducible rfl) | with_reducible rfl
        simp only [Act.put, List.setIfInBounds_toArray, List.set_cons_zero, List.set_cons_succ]
        refine wpAnyH_ready (rs := [5]) (by kernel_rfl) (by simp) ?_
        refine AllReadyH.cons (by simp only [List.getElem?_toArray, List.getElem?_cons_succ, List.getElem?_cons_zero]; rfl) (fun K hK => ?_) AllReadyH.nil
        go_simp
        refine hK.out _ _ ⟨x0, x1, x2⟩ (fun hHeld5 => ?_)
        clear hK K
        try simp only [Act.put, List.setIfInBounds_toArray, List.set_cons_zero, List.set_cons_succ]
        refine wpAnyH_ready (rs := [7]) (by kernel_rfl) (by simp) ?_
        refine AllReadyH.cons (by simp only [List.getElem?_toArray, List.getElem?_cons_succ, List.getElem?_cons_zero]; rfl) (fun K hK => ?_) AllReadyH.nil
        go_simp
        go_at_call 80
        refine (aadded_no base _ _ a _ OA.out hfull).mono ?_
        rintro e w4 ⟨rfl, n4⟩
        exact ⟨rfl, PartQ.no HXN.out (HMM.out _ (NW.out.drew.trans n4))⟩
      · have HXN := hid (HXX.out.trans (peM_4 hl ha hfull))
        clear hl ha
        go_enter Tryz.func78, Tryz.ntmps78
        go_wp2_with fail
        refine HUN.out.mono ?_
        rintro e w1 ⟨rfl, n1⟩
        have N1 := hid n1
        clear n1
        go_wp2_with fail
        refine (HAP.out _ N1.out).mono ?_
        rintro e w2 ⟨rfl, n2⟩
        have N2 := hid (N1.out.trans n2)
        clear n2
        go_wp2_with fail
        refine (need_yes 2 _).mono ?_
        rintro e w3 ⟨rfl, rfl⟩
        go_wp2_with fail
        refine name_worldA (p := fun W => Code.wp _ _ _ _ W) (fun W hW => ?_)
        have BXx : Blk W w2.heap.size #[.int .i64 a.fam, .string a.ip, .int .i64 a.port] 64 := by
          rw [hW]
          apply Blk.row
          · repeat (first | with_reducible exact HSM | (with_reducible apply Blk.newAt; (simp; done)) | with_reducible apply Blk.alloc | with_reducible apply Blk.drew | with_reducible apply Blk.drewN | with_reducible apply Blk.set | (with_reducible apply Blk.other; · first | (simp; done) | (simp; omega) | omega) | (with_reducible apply Blk.putObj; · first | (simp; done) | (simp; omega) | omega))
          · rfl
        have NWx : New w W := by
          rw [hW]
          have q := N2.out
          have q2 := N2.out.size
          repeat (first | with_reducible exact q | with_reducible refine Mod.alloc ?_ _ | with_reducible refine Mod.drew ?_ | with_reducible refine Mod.drewN ?_ _ | (with_reducible refine Mod.set ?_ _ _ (by first | exact .inl rfl | (right; omega) | (right; simp; done) | (right; simp; omega) | (left; omega) | (left; simp; done) | (left; simp; omega))) | (with_reducible refine Mod.putObj ?_ _ _ (by first | exact .inl rfl | (right; omega) | (right; simp; done) | (right; simp; omega) | (left; omega) | (left; simp; done) | (left; simp; omega))))
        have BX := hid BXx; have NW := hid NWx
        have hws : w2.heap.size < W.heap.size := BXx.lt
        clear hW BXx NWx
        have HW := hid (H.out.next NW.out)
        have x0 : W.drew.cell? ⟨w2.heap.size, 0, none⟩ = some (.int .i64 a.fam) := BX.out.cellv 0 rfl
        have x1 : W.drew.cell? ⟨w2.heap.size, 1, none⟩ = some (.string a.ip) := BX.out.cellv 1 rfl
        have x2 : W.drew.cell? ⟨w2.heap.size, 2, none⟩ = some (.int .i64 a.port) := BX.out.cellv 2 rfl
        have b4 : W.drew.cell? ⟨B, 4, none⟩ = some r.pe := HW.out.blk.cellv 4 rfl
        have OA : Hid (OwnA W.drew base r.pe m.pe) := hid (OwnA.new ⟨HW.out.pe⟩ (Mod.refl _ W).drew)
        refine wp_region_held_drew (S := (fun w' => w'.cell? ⟨w2.heap.size, 0, none⟩ = some (.int .i64 a.fam) ∧ w'.cell? ⟨w2.heap.size, 1, none⟩ = some (.string a.ip) ∧ w'.cell? ⟨w2.heap.size, 2, none⟩ = some (.int .i64 a.port))) (by kernel_rfl) ⟨x0, x1, x2⟩ (fun hHeld => ?_)
        refine tk (v := ?_) 0 ?_ ?_
        rotate_left
        · intro w hSw
          (try dsimp only at hSw)
          first | (go_simp; done) | (go_simp; with_reducible rfl) | with_reducible rfl
        simp only [Act.put, List.setIfInBounds_toArray, List.set_cons_zero, List.set_cons_succ]
        refine tk (v := ?_) 1 ?_ ?_
        rotate_left
        · intro w hSw
          (try dsimp only at hSw)
          first | (go_simp; done) | (go_simp; with_reducible rfl) | with_reducible rfl
        simp only [Act.put, List.setIfInBounds_toArray, List.set_cons_zero, List.set_cons_succ]
        refine tk (v := ?_) 2 ?_ ?_
        rotate_left
        · intro w hSw
          (try dsimp only at hSw)
          first | (go_simp; done) | (go_simp; with_reducible rfl) | with_reducible rfl
        simp only [Act.put, List.setIfInBounds_toArray, List.set_cons_zero, List.set_cons_succ]
        refine tk (v := ?_) 3 ?_ ?_
        rotate_left
        · intro w hSw
          (try dsimp only at hSw)
          first | (go_simp; done) | (go_simp; with_reducible rfl) | with_reducible rfl
        simp only [Act.put, List.setIfInBounds_toArray, List.set_cons_zero, List.set_cons_succ]
        refine tk (v := ?_) 4 ?_ ?_
        rotate_left
        · intro w hSw
          (try dsimp only at hSw)
          first | (go_simp; done) | (go_simp; with_reducible rfl) | with_reducible rfl
        simp only [Act.put, List.setIfInBounds_toArray, List.set_cons_zero, List.set_cons_succ]
        refine tk (v := ?_) 6 ?_ ?_
        rotate_left
        · intro w hSw
          (try dsimp only at hSw)
          first | (go_simp; done) | (go_simp; with_reducible rfl) | with_reducible rfl
        simp only [Act.put, List.setIfInBounds_toArray, List.set_cons_zero, List.set_cons_succ]
        refine wpAnyH_ready (rs := [5]) (by kernel_rfl) (by simp) ?_
        refine AllReadyH.cons (by simp only [List.getElem?_toArray, List.getElem?_cons_succ, List.getElem?_cons_zero]; rfl) (fun K hK => ?_) AllReadyH.nil
        go_simp
        refine hK.out _ _ ⟨x0, x1, x2⟩ (fun hHeld5 => ?_)
        clear hK K
        try simp only [Act.put, List.setIfInBounds_toArray, List.set_cons_zero, List.set_cons_succ]
        refine wpAnyH_ready (rs := [7]) (by kernel_rfl) (by simp) ?_
        refine AllReadyH.cons (by simp only [List.getElem?_toArray, List.getElem?_cons_succ, List.getElem?_cons_zero]; rfl) (fun K hK => ?_) AllReadyH.nil
        go_simp
        go_at_call 80
        refine (aadded_yes base _ _ a _ OA.out (by omega) (Nat.le_trans hbs NW.out.drew.size)).mono ?_
        rintro e w4 ⟨o, rfl, ho, hm, hob⟩
        obtain ⟨oa, oc, hof⟩ := ho.form
        rw [List.length_append, List.length_singleton] at hof
        subst hof
        have hH := HW.out.next ((Mod.refl _ W).drew)
        have hR := RdIs.pePut hH hm ho hob
        have hB2 := hm.blk hH.blk (fun q => by have := (rowBlock hH.pe q).1; have := hH.low; omega)
        have bc : w4.cell? ⟨B, 4, none⟩ = some r.pe := hB2.cellv 4 rfl
        have bl := hB2.lt
        have bf := hB2.frz 4
        have HR := hid hR
        have HM2 : Hid (Mod (fun k => k = B ∨ base ≤ k) w w4) := hid ((HMM.out _ NW.out.drew).trans (hm.mono (fun k _ q => .inr (rowBlock hH.pe q).1)))
        have hm' := hid hm
        clear ho hm hob hR hB2 hH
        try dsimp only
        have BX4 := hid (hm'.out.blk (BX.out.drew) (fun q => by have := (rowBlock (H.out.next N2.out).pe q).2; omega))
        have z0 := BX4.out.cellv 0 rfl; have z1 := BX4.out.cellv 1 rfl; have z2 := BX4.out.cellv 2 rfl
        refine hK.out _ _ ⟨z0, z1, z2⟩ (fun hHeld7 => ?_)
        clear hK K
        try simp only [Act.put, List.setIfInBounds_toArray, List.set_cons_zero, List.set_cons_succ]
        refine tk (v := ?_) 8 ?_ ?_
        rotate_left
        · intro w hSw
          (try dsimp only at hSw)
          first | (go_simp; done) | (go_simp; with_reducible rfl) | with_reducible rfl
        simp only [Act.put, List.setIfInBounds_toArray, List.set_cons_zero, List.set_cons_succ]
        refine tk (v := ?_) 9 ?_ ?_
        rotate_left
        · intro w hSw
          (try dsimp only at hSw)
          first | (go_simp; done) | (go_simp; with_reducible rfl) | with_reducible rfl
        simp only [Act.put, List.setIfInBounds_toArray, List.set_cons_zero, List.set_cons_succ]
        refine tk (v := ?_) 10 ?_ ?_
        rotate_left
        · intro w hSw
          (try dsimp only at hSw)
          first | (go_simp; done) | (go_simp; with_reducible rfl) | with_reducible rfl
        simp only [Act.put, List.setIfInBounds_toArray, List.set_cons_zero, List.set_cons_succ]
        have BX5 := hid (BX4.out.other (p := ⟨B, 4, none⟩) (u := .slice oa (m.pe.length + 1) oc) (by have := H.out.blk.lt; have := N2.out.size; show w2.heap.size ≠ B; omega))
        refine wpAnyH_ready (rs := [11]) (by kernel_rfl) (by simp) ?_
        refine AllReadyH.cons (by simp only [List.getElem?_toArray, List.getElem?_cons_succ, List.getElem?_cons_zero]; rfl) (fun K hK => ?_) AllReadyH.nil
        go_simp
        refine hK.out _ _ ⟨BX5.out.cellv 0 rfl, BX5.out.cellv 1 rfl, BX5.out.cellv 2 rfl⟩ (fun hHeld11 => ?_)
        clear hK K
        try simp only [Act.put, List.setIfInBounds_toArray, List.set_cons_zero, List.set_cons_succ]
        refine wpAnyH_done (by kernel_rfl) ?_ _
        go_wp2
        go_end0
        exact PartQ.yes HXN.out HR.out (HM2.out.set _ _ (.inl (.inl rfl)))
end Go.Proofs.YtbgmkplpolgebaaGreatDoor
