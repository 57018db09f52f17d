/-
  Several texts in one, in their build order. The walk of ordered (the reference): a name among others. Conditions: the list lies as told.
-/
import Derived.Test.YtnflhjagmngimaaGreatDoorM30
namespace Go.Proofs.YtnflhjagmngimaaGreatDoor
set_option linter.unusedSimpArgs false
set_option linter.unusedVariables false
open Go.RowKit Go.Shelf

def ordStep (n : ByteArray) (o : List ByteArray × Bool) (s : ByteArray) : List ByteArray × Bool := if o.2 = false ∧ Op.bytesLess n.toList s.toList = true then (o.1 ++ [n] ++ [s], true) else (o.1 ++ [s], o.2)
def ordF (l : List ByteArray) (n : ByteArray) : List ByteArray × Bool := l.foldl (ordStep n) ([], false)
def ordB (l : List ByteArray) (n : ByteArray) : List ByteArray := if (ordF l n).2 = false then (ordF l n).1 ++ [n] else (ordF l n).1
theorem ordF_next {l : List ByteArray} {n : ByteArray} {k : Nat} (h : k < l.length) : ordF (l.take (k + 1)) n = ordStep n (ordF (l.take k) n) l[k] := by
  unfold ordF
  rw [List.take_succ_eq_append_getElem h, List.foldl_append]
  rfl
theorem ordF_len (l : List ByteArray) (n : ByteArray) : (ordF l n).1.length ≤ l.length + 1 ∧ ((ordF l n).2 = false → (ordF l n).1.length ≤ l.length) := by
  suffices h : ∀ (l : List ByteArray) (o : List ByteArray × Bool), (l.foldl (ordStep n) o).1.length ≤ o.1.length + l.length + (if o.2 then 0 else 1) ∧ ((l.foldl (ordStep n) o).2 = false → (l.foldl (ordStep n) o).1.length ≤ o.1.length + l.length) by
    have := h l ([], false)
    simpa [ordF] using this
  intro l
  induction l with
  | nil => intro o; simp
  | cons s r ih =>
    intro o
    simp only [List.foldl_cons, List.length_cons]
    by_cases hc : o.2 = false ∧ Op.bytesLess n.toList s.toList = true
    · have e : ordStep n o s = (o.1 ++ [n] ++ [s], true) := by unfold ordStep; rw [if_pos hc]
      rw [e]
      obtain ⟨h1, h2⟩ := ih (o.1 ++ [n] ++ [s], true)
      refine ⟨?_, fun q => ?_⟩
      · rw [hc.1]; simp at h1 ⊢; omega
      · have : ∀ (l : List ByteArray) (o : List ByteArray × Bool), o.2 = true → (l.foldl (ordStep n) o).2 = true := by
          intro l
          induction l with
          | nil => intro o ho; exact ho
          | cons s r ih2 =>
            intro o ho
            refine ih2 _ ?_
            unfold ordStep
            split
            · rfl
            · exact ho
        rw [this _ _ rfl] at q
        cases q
    · have e : ordStep n o s = (o.1 ++ [s], o.2) := by unfold ordStep; rw [if_neg hc]
      rw [e]
      obtain ⟨h1, h2⟩ := ih (o.1 ++ [s], o.2)
      simp at h1 h2 ⊢
      refine ⟨by omega, fun q => by have := h2 q; omega⟩
set_option maxRecDepth 100000 in
set_option maxHeartbeats 4000000 in
theorem ordered23_any (a : Option Addr) (c : Nat) (l : List ByteArray) (n : ByteArray) (w : World) (h : StrsAt w a c l) (hs : n.size ≤ maxLen) (hl : l.length ≤ 200) :
    Calls Tryz.prog 61 #[.slice a l.length c, .string n] w fun e w' => ∃ v, e = .returned v ∧ OwnT w' w.heap.size v (ordB l n) ∧ New w w' := by
  have HA := hid h
  have HSN := hid hs
  have hroom := h.room; have hcap := h.cap
  unfold maxLen at hcap
  obtain ⟨i1, hj, hy0, hy1, hy2⟩ := info_parts info_str
  clear h hs
  go_enter Tryz.func61, Tryz.ntmps61
  go_wp2
  go_loopw [5, 6, 11] (fun v d i wr => ∃ (k : Nat) (D : Bool) (L : List ByteArray), i = .int .i64 k ∧ d = .bool D ∧ k ≤ l.length ∧ ordF (l.take k) n = (L, D) ∧ OwnT wr w.heap.size v L ∧ New w wr) (fun _ _ i _ => l.length - (intOf i).toNat)
  case atStart => exact ⟨0, false, [], rfl, rfl, by omega, rfl, OwnT.nil _ _, Mod.refl _ _⟩
  case round =>
    obtain ⟨k, D, L, rfl, rfl, hk, hf, hb, hn⟩ := hrel
    have HF := hid hf; have HB := hid hb; have HN := hid hn
    have hLl : L.length ≤ 201 := by
      have h1 := (ordF_len (l.take k) n).1
      rw [hf] at h1
      simp at h1
      omega
    obtain ⟨ao, co, rfl, hso, hbo⟩ := HB.out.strs
    have hco := hso.cap
    unfold maxLen at hco
    have hN1 := hn.size
    clear hso hbo
    by_cases hlt : k < l.length
    · obtain ⟨bb, oo, rfl, hbb, hcc⟩ := (HA.out.new hn).get (by omega)
      have g0 := hcc k hlt
      have hsm := hid (HA.out.small l[k] (List.getElem_mem _))
      have hnx := ordF_next (n := n) hlt
      rw [hf] at hnx
      obtain ⟨s, hs⟩ : ∃ s, s = l[k] := ⟨_, rfl⟩
      rw [← hs] at g0 hsm hnx
      unfold ordStep at hnx
      have HNX := hid hnx
      clear hb hn hs hcc hf hnx
      cases D with
      | true =>
        have HNY := hid (show ordF (l.take (k + 1)) n = (L ++ [s], true) by rw [HNX.out, if_neg (by simp)])
        go_wp2_with (first | (at_builtin; go_loud (refine wpList_append_own_at _ rfl _ _ 22 rfl w.heap.size 9 i1 _ 1 16 Tryz.underlying22 hj hy0 hy1 hy2 rfl (by decide) (.slice ao L.length co) (L).length ((L).map Value.string) rfl ?owA1 ⟨wr.heap.size, 0, none⟩ 1 1 [.string s] rfl rfl ?hnA1 ?h1A1 ?h63A1 ?hbyA1 ?hbaA1 ?_)) | fail)
        case owA1 => exact (HB.out.new ((Mod.refl _ _).alloc _)).row
        try (case hnA1 => exact fun j u hj => by rw [addP]; match j, hj with | 0, hj => simp at hj; subst hj; exact (Blk.newAt (by simp)).cellv 0 rfl)
        case h1A1 => first | rfl | (intro u hu; simp at hu; subst hu; rfl)
        case h63A1 => unfold maxLen; omega
        case hbyA1 => omega
        case hbaA1 => first | omega | (simp; omega)
        intro o3 w7 r7 g7 _ _
        have O7 : Hid (OwnT w7 w.heap.size o3 (L ++ [s])) := hid (ownT_of HB.out.small hsm.out r7)
        have N7 : Hid (New w w7) := hid (newGrownP (HN.out.alloc _) g7 (fun q hq => (HB.out.block hq).1))
        clear r7 g7
        go_wp2
        exact ⟨⟨k + 1, true, L ++ [s], by simp, rfl, by omega, HNY.out, O7.out, N7.out⟩, by simp [intOf]; omega⟩
      | false =>
        cases hlt2 : Op.bytesLess n.toList s.toList with
        | true =>
          have HNY := hid (show ordF (l.take (k + 1)) n = (L ++ [n] ++ [s], true) by rw [HNX.out, if_pos ⟨rfl, hlt2⟩])
          go_wp2_with (first | (at_builtin; go_loud (refine wpList_append_own_at _ rfl _ _ 22 rfl w.heap.size 9 i1 _ 1 16 Tryz.underlying22 hj hy0 hy1 hy2 rfl (by decide) (.slice ao L.length co) (L).length ((L).map Value.string) rfl ?owA2 ⟨wr.heap.size, 0, none⟩ 1 1 [.string n] rfl rfl ?hnA2 ?h1A2 ?h63A2 ?hbyA2 ?hbaA2 ?_)) | fail)
          case owA2 => exact (HB.out.new ((Mod.refl _ _).alloc _)).row
          try (case hnA2 => exact fun j u hj => by rw [addP]; match j, hj with | 0, hj => simp at hj; subst hj; exact (Blk.newAt (by simp)).cellv 0 rfl)
          case h1A2 => first | rfl | (intro u hu; simp at hu; subst hu; rfl)
          case h63A2 => unfold maxLen; omega
          case hbyA2 => omega
          case hbaA2 => first | omega | (simp; omega)
          intro o3 w7 r7 g7 _ _
          have O7 : Hid (OwnT w7 w.heap.size o3 (L ++ [n])) := hid (ownT_of HB.out.small HSN.out r7)
          have N7 : Hid (New w w7) := hid (newGrownP (HN.out.alloc _) g7 (fun q hq => (HB.out.block hq).1))
          have hL7 : (L ++ [n]).length ≤ 202 := by rw [List.length_append, List.length_singleton]; omega
          obtain ⟨L7, hL7e⟩ : ∃ L7, L7 = L ++ [n] := ⟨_, rfl⟩
          rw [← hL7e] at O7 hL7 HNY
          obtain ⟨ao2, co2, rfl, hso2, hbo2⟩ := O7.out.strs
          have hco2 := hso2.cap
          have hN7 := N7.out.size
          unfold maxLen at hco2
          clear r7 g7 hso2 hbo2 hL7e
          go_wp2_with (first | (at_builtin; go_loud (refine wpList_append_own_at _ rfl _ _ 22 rfl w.heap.size 9 i1 _ 1 16 Tryz.underlying22 hj hy0 hy1 hy2 rfl (by decide) (.slice ao2 L7.length co2) (L7).length ((L7).map Value.string) rfl ?owB3 ⟨w7.heap.size, 0, none⟩ 1 1 [.string s] rfl rfl ?hnB3 ?h1B3 ?h63B3 ?hbyB3 ?hbaB3 ?_)) | fail)
          case owB3 => exact (O7.out.new ((Mod.refl _ _).alloc _)).row
          try (case hnB3 => exact fun j u hj => by rw [addP]; match j, hj with | 0, hj => simp at hj; subst hj; exact (Blk.newAt (by simp)).cellv 0 rfl)
          case h1B3 => first | rfl | (intro u hu; simp at hu; subst hu; rfl)
          case h63B3 => unfold maxLen; omega
          case hbyB3 => omega
          case hbaB3 => first | omega | (simp; omega)
          intro o4 w8 r8 g8 _ _
          have O8 : Hid (OwnT w8 w.heap.size o4 (L7 ++ [s])) := hid (ownT_of O7.out.small hsm.out r8)
          have N8 : Hid (New w w8) := hid (newGrownP (N7.out.alloc _) g8 (fun q hq => (O7.out.block hq).1))
          clear r8 g8
          go_wp2
          exact ⟨⟨k + 1, true, L7 ++ [s], by simp, rfl, by omega, HNY.out, O8.out, N8.out⟩, by simp [intOf]; omega⟩
        | false =>
          have HNY := hid (show ordF (l.take (k + 1)) n = (L ++ [s], false) by rw [HNX.out, if_neg (by rw [hlt2]; simp)])
          go_wp2_with (first | (at_builtin; go_loud (refine wpList_append_own_at _ rfl _ _ 22 rfl w.heap.size 9 i1 _ 1 16 Tryz.underlying22 hj hy0 hy1 hy2 rfl (by decide) (.slice ao L.length co) (L).length ((L).map Value.string) rfl ?owA4 ⟨wr.heap.size, 0, none⟩ 1 1 [.string s] rfl rfl ?hnA4 ?h1A4 ?h63A4 ?hbyA4 ?hbaA4 ?_)) | fail)
          case owA4 => exact (HB.out.new ((Mod.refl _ _).alloc _)).row
          try (case hnA4 => exact fun j u hj => by rw [addP]; match j, hj with | 0, hj => simp at hj; subst hj; exact (Blk.newAt (by simp)).cellv 0 rfl)
          case h1A4 => first | rfl | (intro u hu; simp at hu; subst hu; rfl)
          case h63A4 => unfold maxLen; omega
          case hbyA4 => omega
          case hbaA4 => first | omega | (simp; omega)
          intro o3 w7 r7 g7 _ _
          have O7 : Hid (OwnT w7 w.heap.size o3 (L ++ [s])) := hid (ownT_of HB.out.small hsm.out r7)
          have N7 : Hid (New w w7) := hid (newGrownP (HN.out.alloc _) g7 (fun q hq => (HB.out.block hq).1))
          clear r7 g7
          go_wp2
          exact ⟨⟨k + 1, false, L ++ [s], by simp, rfl, by omega, HNY.out, O7.out, N7.out⟩, by simp [intOf]; omega⟩
    · obtain rfl : k = l.length := by omega
      rw [List.take_length] at HF
      clear hb hn hf
      cases D with
      | true =>
        have HX := hid (show ordB l n = L by unfold ordB; rw [HF.out, if_neg (by simp)])
        go_wp2
        go_ret
        exact ⟨_, rfl, by rw [HX.out]; exact HB.out, HN.out⟩
      | false =>
        have HX := hid (show ordB l n = L ++ [n] by unfold ordB; rw [HF.out, if_pos rfl])
        go_wp2_with (first | (at_builtin; go_loud (refine wpList_append_own_at _ rfl _ _ 22 rfl w.heap.size 9 i1 _ 1 16 Tryz.underlying22 hj hy0 hy1 hy2 rfl (by decide) (.slice ao L.length co) (L).length ((L).map Value.string) rfl ?owA5 ⟨wr.heap.size, 0, none⟩ 1 1 [.string n] rfl rfl ?hnA5 ?h1A5 ?h63A5 ?hbyA5 ?hbaA5 ?_)) | fail)
        case owA5 => exact (HB.out.new ((Mod.refl _ _).alloc _)).row
        try (case hnA5 => exact fun j u hj => by rw [addP]; match j, hj with | 0, hj => simp at hj; subst hj; exact (Blk.newAt (by simp)).cellv 0 rfl)
        case h1A5 => first | rfl | (intro u hu; simp at hu; subst hu; rfl)
        case h63A5 => unfold maxLen; omega
        case hbyA5 => omega
        case hbaA5 => first | omega | (simp; omega)
        intro o3 w7 r7 g7 _ _
        have O7 : Hid (OwnT w7 w.heap.size o3 (L ++ [n])) := hid (ownT_of HB.out.small HSN.out r7)
        have N7 : Hid (New w w7) := hid (newGrownP (HN.out.alloc _) g7 (fun q hq => (HB.out.block hq).1))
        clear r7 g7
        go_wp2
        go_ret
        exact ⟨_, rfl, by rw [HX.out]; exact O7.out, N7.out⟩
end Go.Proofs.YtnflhjagmngimaaGreatDoor
