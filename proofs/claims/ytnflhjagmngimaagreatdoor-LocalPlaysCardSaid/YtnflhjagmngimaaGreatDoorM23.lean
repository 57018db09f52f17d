/-
  Several texts in one, in their build order. The walk of read: a text's lines are read one by one. Conditions: the text is small; the library's variables are as laid.
-/
import Derived.Test.YtnflhjagmngimaaGreatDoorM22
namespace Go.Proofs.YtnflhjagmngimaaGreatDoor
set_option linter.unusedSimpArgs false
set_option linter.unusedVariables false
open Go.RowKit Go.Shelf

def linesT (t : ByteArray) : List ByteArray := (linesC t.data.toList).map mkB
theorem mkB_data (b : ByteArray) : mkB b.data.toList = b := bytes_back b
theorem mkB_list (l : List UInt8) : (mkB l).data.toList = l := rfl
theorem alloc_strsL (w : World) (p : List ByteArray) (hp : p ≠ []) (hl : p.length ≤ maxLen) (hs : ∀ s ∈ p, s.size ≤ maxLen) : StrsAt (w.alloc (.cells (p.map Value.string).toArray 9)) (some ⟨w.heap.size, 0, none⟩) p.length p := by
  refine ⟨Nat.le_refl _, hl, hs, .inr ⟨w.heap.size, 0, rfl, by simp, fun i s hi => ?_⟩⟩
  refine (Blk.new w (p.map Value.string).toArray 9).cellv _ ?_
  rw [Nat.zero_add, List.getElem?_toArray, List.getElem?_map, hi]
  rfl
theorem splitB_lines (t : ByteArray) : Lib.splitB ⟨#[13, 10]⟩ 0 (Lib.countB t ⟨#[13, 10]⟩) t = linesT t := by
  have h := Lib.splitB_data ⟨#[13, 10]⟩ 0 (Lib.countB t ⟨#[13, 10]⟩) t
  have e : linesC t.data.toList = Lib.splitK [13, 10] 0 (Lib.countB t ⟨#[13, 10]⟩) t.data.toList := rfl
  unfold linesT
  rw [e]
  have h2 := congrArg (List.map mkB) h
  rw [List.map_map] at h2
  have e2 : (mkB ∘ fun x : ByteArray => x.data.toList) = id := by
    funext b
    exact mkB_data b
  rw [e2, List.map_id] at h2
  exact h2
theorem line_le : ∀ (n : Nat) (s : List UInt8), s.length ≤ n → ∀ x ∈ linesC s, x.length ≤ s.length := by
  intro n
  induction n with
  | zero =>
    intro s hs x hx
    obtain rfl : s = [] := List.eq_nil_of_length_eq_zero (by omega)
    rw [lines_miss (by decide)] at hx
    simp at hx
    rw [hx]
    exact Nat.le_refl _
  | succ n ih =>
    intro s hs x hx
    rcases Lib.index_spec s [13, 10] with ⟨h, -⟩ | ⟨i, h, hi, ho, -⟩
    · rw [lines_miss h] at hx
      simp at hx
      rw [hx]
      exact Nat.le_refl _
    · obtain ⟨e, hl⟩ := occ_form ho
      rw [lines_hit h] at hx
      rcases List.mem_cons.1 hx with rfl | hx
      · rw [List.length_take]; omega
      · have := ih _ (by rw [List.length_drop]; omega) x hx
        rw [List.length_drop] at this
        omega
theorem linesT_size {t x : ByteArray} (h : x ∈ linesT t) : x.size ≤ t.size := by
  unfold linesT at h
  obtain ⟨y, hy, rfl⟩ := List.mem_map.1 h
  have := line_le _ _ (Nat.le_refl _) y hy
  rw [mkB_size]
  rw [Array.length_toList] at this
  exact this
theorem splitC_any (t : ByteArray) (w : World) (hv : VarsL w) (hs : t.size ≤ 65536) :
    Calls Tryz.prog 43 #[.string t, .string ⟨#[13, 10]⟩] w fun e w' => e = .returned (.slice (some ⟨w.heap.size, 0, none⟩) (linesT t).length (linesT t).length) ∧ StrsAt w' (some ⟨w.heap.size, 0, none⟩) (linesT t).length (linesT t) ∧ New w w' ∧ w'.heap.size = w.heap.size + 1 := by
  obtain ⟨m, hm⟩ := hv.max
  have hL : Lib.countB t ⟨#[13, 10]⟩ + 1 = (linesT t).length := by
    rw [← splitB_lines t, Lib.splitB_all ⟨#[13, 10]⟩ (by decide) 0 _ t rfl]
  have hle := Lib.countB_le ⟨#[13, 10]⟩ (by decide) t.size t (Nat.le_refl _)
  refine (Tryz.strings_Split t ⟨#[13, 10]⟩ m w (by omega) hm (by decide)).mono ?_
  rintro e w' ⟨rfl, rfl⟩
  rw [hL, splitB_lines]
  refine ⟨rfl, alloc_strsL w (linesT t) ?_ ?_ ?_, (Mod.refl _ _).alloc _, by simp⟩
  · intro q
    rw [q] at hL
    simp at hL
  · unfold maxLen
    omega
  · intro s h
    have := linesT_size h
    unfold maxLen
    omega
/-! the loop -/
/-- What is still to be read from line k on. -/
def contR (L : List (List UInt8)) (k : Nat) (s : RdS) : Except Nat MsgV := if k = 0 then readP L else goL (L.drop k) k s
theorem good_few {s : RdS} (h : goodS s) : s.names.length ≤ 20 ∧ (s.ph = 3 → s.cookie.size ≠ 0) ∧ s.ph ≤ 3 := by
  unfold goodS at h
  split at h
  · next q => rw [h]; exact ⟨by simp, fun x => by omega, by omega⟩
  · next q => rw [h.2]; exact ⟨by simp, fun x => by omega, by omega⟩
  · next q => exact ⟨(namesB_iff.1 h.2).2.2, fun x => by omega, by omega⟩
  · next q => exact ⟨(namesB_iff.1 h.2.1).2.2, fun _ => by have := (cookie_parts h.2.2).2.1; omega, by omega⟩
  · cases h
theorem take_good {s s' : RdS} {l : List UInt8} (hg : goodS s) (h : takeP s l = some s') : goodS s' := by
  unfold takeP at h
  split at h
  · split at h
    · next hp =>
      cases hpp : portP (l.drop (keyLen l)) with
      | none => rw [hpp] at h; cases h
      | some n =>
        rw [hpp] at h
        simp only [Option.some.injEq] at h
        subst h
        obtain ⟨e1, e2, e3⟩ := portP_some hpp
        unfold goodS at hg
        rw [hp] at hg
        exact ⟨⟨e2, e3⟩, hg⟩
    · cases h
  · split at h
    · split at h
      · next hp =>
        cases hpp : unhex (l.drop (keyLen l)) with
        | none => rw [hpp] at h; cases h
        | some t =>
          rw [hpp] at h
          simp only at h
          split at h
          · next hn =>
            simp only [Option.some.injEq] at h
            subst h
            have hport : 1 ≤ s.port ∧ s.port ≤ 65535 := by
              unfold goodS at hg
              rcases hp with hp | hp
              · rw [hp] at hg; exact hg.1
              · rw [hp] at hg; exact hg.1
            exact ⟨hport, hn⟩
          · cases h
      · cases h
    · split at h
      · split at h
        · next hp =>
          split at h
          · next hc =>
            simp only [Option.some.injEq] at h
            subst h
            unfold goodS at hg
            rw [hp] at hg
            exact ⟨hg.1, hg.2, hc⟩
          · cases h
        · cases h
      · cases h
theorem contR_last {L : List (List UInt8)} {k : Nat} {s : RdS} (hk : k + 1 = L.length) : contR L k s = .error k := by
  unfold contR
  split
  · next h =>
    subst h
    match L, hk with
    | [x], _ => rfl
  · have e : L.drop k = [L[k]] := by
      rw [List.drop_eq_getElem_cons (by omega), List.drop_of_length_le (by omega)]
    rw [e, goL, if_pos rfl]
theorem contR_first {L : List (List UInt8)} (h : 2 ≤ L.length) : contR L 0 rd0 = if L[0] = firstL then contR L 1 rd0 else .error 0 := by
  match L, h with
  | x :: y :: r, _ =>
    have e1 : contR (x :: y :: r) 0 rd0 = (if x = firstL then goL (y :: r) 1 rd0 else .error 0) := by
      unfold contR
      rw [if_pos rfl, readP, if_neg (by simp)]
    have e2 : contR (x :: y :: r) 1 rd0 = goL (y :: r) 1 rd0 := by
      unfold contR
      rw [if_neg (by simp)]
      rfl
    rw [e1, e2]
    rfl
theorem contR_end {L : List (List UInt8)} {k : Nat} {s : RdS} (h0 : 0 < k) (hk : k + 1 < L.length) (hx : L[k] = []) (hp : s.ph = 3) : contR L k s = if k + 2 = L.length ∧ L[k + 1] = [] then .ok ⟨s.port, s.names, s.cookie⟩ else .error (k + 1) := by
  have e : L.drop k = L[k] :: L.drop (k + 1) := List.drop_eq_getElem_cons (by omega)
  have e2 : L.drop (k + 1) = L[k + 1] :: L.drop (k + 2) := List.drop_eq_getElem_cons (by omega)
  unfold contR
  rw [if_neg (by omega), e, goL, if_neg (by rw [List.drop_eq_nil_iff]; omega), if_pos ⟨hx, hp⟩, e2]
  have e3 : (L[k + 1] :: L.drop (k + 2) = [[]]) ↔ (k + 2 = L.length ∧ L[k + 1] = []) := by
    rw [List.cons.injEq, List.drop_eq_nil_iff]
    constructor
    · rintro ⟨a, b⟩; exact ⟨by omega, a⟩
    · rintro ⟨a, b⟩; exact ⟨b, by omega⟩
  by_cases q : k + 2 = L.length ∧ L[k + 1] = []
  · rw [if_pos q, if_pos (e3.2 q)]
  · rw [if_neg q, if_neg (fun z => q (e3.1 z))]
theorem contR_take {L : List (List UInt8)} {k : Nat} {s : RdS} (h0 : 0 < k) (hk : k + 1 < L.length) (hx : ¬ (L[k] = [] ∧ s.ph = 3)) : contR L k s = match takeP s L[k] with
    | none => .error k
    | some s' => contR L (k + 1) s' := by
  have e : L.drop k = L[k] :: L.drop (k + 1) := List.drop_eq_getElem_cons (by omega)
  unfold contR
  rw [if_neg (by omega), e, goL, if_neg (by rw [List.drop_eq_nil_iff]; omega), if_neg hx]
  cases takeP s L[k] with
  | none => rfl
  | some s' => simp only; rw [if_neg (by omega)]
/-- What read makes of a text. -/
def RdOut (base : Nat) (r : Except Nat MsgV) (e : Ending) (w' : World) : Prop := match r with
  | .ok m => ∃ a c, e = .returned (msgV a c m) ∧ StrsAt w' a c m.names ∧ ∀ x, a = some x → base ≤ x.block
  | .error n => e = .panicked (toldL n)
theorem RdOut.no {base : Nat} {r : Except Nat MsgV} {n : Nat} {w' : World} (h : r = .error n) : RdOut base r (.panicked (toldL n)) w' := by rw [h]; rfl
theorem empty_toList (b : ByteArray) : b.toList.isEmpty = decide (b.data.toList = []) := by
  rw [ByteArray.toList_eq]
  cases b.data.toList with
  | nil => rfl
  | cons a r => rfl
set_option maxRecDepth 100000 in
set_option maxHeartbeats 4000000 in
theorem read_any (t : ByteArray) (w : World) (hv : VarsL w) (hs : t.size ≤ 65536) :
    Calls Tryz.prog 83 #[.string t] w fun e w' => RdOut w.heap.size (readP (linesC t.data.toList)) e w' ∧ New w w' := by
  have HSP := hid (fun W (n : New w W) => splitC_any t W (hv.new n) hs)
  have HSZ := hid (fun x (h : x ∈ linesT t) => linesT_size h)
  have HV := hid hv
  obtain ⟨Ls, hLs⟩ : ∃ L, L = linesC t.data.toList := ⟨_, rfl⟩
  have hne : Ls ≠ [] := by rw [hLs]; exact lines_ne _
  obtain ⟨Lb, hLb⟩ : ∃ L, L = linesT t := ⟨_, rfl⟩
  have hmap : Lb = Ls.map mkB := by rw [hLb, hLs]; rfl
  have hlen : Lb.length = Ls.length := by rw [hmap, List.length_map]
  have HD := hid (fun (k : Nat) (h : k < Lb.length) (h' : k < Ls.length) => show Lb[k].data.toList = Ls[k] by
    have : Lb[k] = mkB Ls[k] := by simp [hmap]
    rw [this, mkB_list])
  have HLEN := hid hlen
  rw [← hLs]
  rw [← hLb] at HSP HSZ
  obtain ⟨res, hres⟩ : ∃ r, r = readP Ls := ⟨_, rfl⟩
  rw [← hres]
  have HRES := hid hres
  have hN : 1 ≤ Lb.length := by
    rw [hlen]
    rcases Nat.eq_zero_or_pos Ls.length with q | q
    · exact absurd (List.eq_nil_of_length_eq_zero q) hne
    · exact q
  clear hv hLs hLb hmap hlen hres hne
  go_enter Tryz.func83, Tryz.ntmps83
  go_wp2_with fail
  refine (HSP.out _ ((Mod.refl _ _).alloc _)).mono ?_
  rintro e w1 ⟨rfl, s1, n1, z1⟩
  have N1 := hid n1; have S1 := hid s1
  have hz1 : w1.heap.size = w.heap.size + 2 := by simpa using z1
  have HR1 := hid (n1.blk (Blk.new w #[.int .i64 0, .slice none 0 0, .string ⟨#[]⟩] 34))
  have HNW : Hid (New w w1) := hid (((Mod.refl _ w).alloc (.cells #[.int .i64 0, .slice none 0 0, .string ⟨#[]⟩] 34)).trans n1)
  clear n1 s1 z1
  go_wp2_with fail
  obtain ⟨N, hNN⟩ : ∃ N, N = Lb.length := ⟨_, rfl⟩
  obtain ⟨b1, o1, hb1e, hb1, hc1⟩ := S1.out.get (by omega)
  injection hb1e with q1
  injection q1 with q2 q3
  subst q2 q3
  have HC1 := hid (fun (i : Nat) (hi : i < Lb.length) => show w1.cell? ⟨w.heap.size + 1, i, none⟩ = some (.string Lb[i]) by have := hc1 i hi; simpa using this)
  rw [← hNN] at hN ⊢
  have HNN := hid hNN
  have hNs := HLEN.out
  rw [← hNN] at hNs
  have HNS := hid hNs
  have hNb : N ≤ 9223372036854775807 := by
    have := S1.out.cap
    unfold maxLen at this
    omega
  clear hc1 hNN hNs
  go_loopw [13] (fun i wr => ∃ (k : Nat) (s : RdS) (ln : Int), i = .int .i64 k ∧ k < N ∧ contR Ls k s = res ∧ (k = 0 → s = rd0) ∧ goodS s ∧ RdAt wr (w.heap.size + 2) ln s ∧ New w1 wr) (fun i _ => N - (intOf i).toNat)
  case atStart =>
    refine ⟨0, rd0, 0, rfl, hN, by rw [HRES.out]; rfl, fun _ => rfl, rfl, ⟨.slice none 0 0, Blk.newAt hz1.symm, OwnT.nil _ _⟩, (Mod.refl _ _).alloc _⟩
  case round =>
    obtain ⟨k, s, ln, rfl, hk, hco, h0, hg, hrd, hn⟩ := hrel
    have HCO := hid hco; have H0 := hid h0; have HG := hid hg; have HN := hid hn; have HRD := hid hrd
    clear hco h0 hg hrd hn
    obtain ⟨v, hB, hO⟩ := HRD.out
    have HB := hid hB; have HO := hid hO
    clear hB hO
    have hkI : (k : Int) < (N : Int) := by omega
    have hcell := HN.out.cellv (HC1.out k (by have := HNN.out; omega))
    have HX := hid (HD.out k (by have := HNN.out; omega) (by have := HNS.out; omega))
    have hxs := HSZ.out Lb[k] (List.getElem_mem _)
    obtain ⟨x, hx⟩ : ∃ x, x = Lb[k]'(by have := HNN.out; omega) := ⟨_, rfl⟩
    rw [← hx] at hcell HX hxs
    have d3 := HB.out.cellv 3 rfl; have dl := HB.out.lt; have df := HB.out.frz
    have HB3 := hid (HB.out.set 3 (.int .i64 k))
    have HN3 : Hid (New w1 (wr.setCell ⟨w.heap.size + 2, 3, none⟩ (.int .i64 k))) := hid (HN.out.set _ _ (.inr (by show w1.heap.size ≤ w.heap.size + 2; omega)))
    have HO3 := hid (HO.out.mod (S := fun j => j = w.heap.size + 2) ((Mod.refl _ _).set ⟨w.heap.size + 2, 3, none⟩ (.int .i64 k) (.inl rfl)) (fun j q1 q2 q3 => by omega))
    clear hx
    by_cases hlast : k + 1 = N
    · have hlI : ((k : Int) == (N : Int) - 1) = true := by rw [beq_iff_eq]; omega
      have HR := hid (show res = .error k by rw [← HCO.out]; exact contR_last (by have := HNS.out; omega))
      clear hlast
      go_wp2
      exact ⟨rfl, RdOut.no HR.out, HNW.out.trans HN3.out⟩
    have hlI : ((k : Int) == (N : Int) - 1) = false := by rw [beq_eq_false_iff_ne]; omega
    have hk1 : k + 1 < N := by omega
    clear hlast
    rcases Nat.eq_zero_or_pos k with hk0 | hk0
    · have hs0 := H0.out hk0
      subst hk0 hs0
      have h0I : (((0 : Nat) : Int) == 0) = true := rfl
      have HCF := hid (contR_first (L := Ls) (by have := HNS.out; omega))
      rw [← HX.out] at HCF
      have hfx := lit_eq x [67, 65, 76, 76, 32, 42, 32, 67, 79, 86, 69, 89, 47, 49]
      by_cases hf : x.data.toList = firstL
      · have hfe : x = ⟨#[67, 65, 76, 76, 32, 42, 32, 67, 79, 86, 69, 89, 47, 49]⟩ := bytes_ext hf
        rw [decide_eq_true hfe] at hfx
        have HC2 := hid (show contR Ls 1 rd0 = res by rw [← HCO.out, HCF.out, if_pos hf])
        clear hf hfe
        go_wp2
        go_roundw
        case rel => exact ⟨1, rd0, 0, rfl, hk1, HC2.out, fun q => by omega, HG.out, ⟨v, HB3.out, HO3.out⟩, HN3.out⟩
        case measure => simp [intOf]; omega
      · have hfe : ¬ x = ⟨#[67, 65, 76, 76, 32, 42, 32, 67, 79, 86, 69, 89, 47, 49]⟩ := fun q => hf (by rw [q]; rfl)
        rw [decide_eq_false hfe] at hfx
        have HR := hid (show res = .error 0 by rw [← HCO.out, HCF.out, if_neg hf])
        clear hf hfe
        go_wp2
        exact ⟨rfl, RdOut.no HR.out, HNW.out.trans HN3.out⟩
    have h0I : ((k : Int) == 0) = false := by rw [beq_eq_false_iff_ne]; omega
    have d0 := HB.out.cellv 0 rfl; have d1 := HB.out.cellv 1 rfl; have d2 := HB.out.cellv 2 rfl; have d4 := HB.out.cellv 4 rfl
    have hxe := empty_toList x
    have hkS : k + 1 < Ls.length := by have := HNS.out; omega
    have HTK := hid (fun (q : ¬ (Ls[k] = [] ∧ s.ph = 3)) => contR_take (L := Ls) (s := s) hk0 hkS q)
    have HXL := hid (show Ls[k] = x.data.toList from HX.out.symm)
    have HTI : Hid (TkIn w1 (wr.setCell ⟨w.heap.size + 2, 3, none⟩ (.int .i64 k)) (w.heap.size + 2) k s x) := hid ⟨HV.out.new HNW.out, HN3.out, by omega, (good_few HG.out).1, ⟨v, HB3.out, HO3.out⟩, by omega⟩
    have HTA := hid (take_any _ _ _ _ _ _ HTI.out)
    rw [HXL.out, HCO.out] at HTK
    have HGD := hid (fun s' (q : takeP s x.data.toList = some s') => take_good HG.out q)
    obtain ⟨nx, hnx⟩ : ∃ nx, nx = nextB s.ph := ⟨_, rfl⟩
    rw [← hnx] at d4
    have hne := empty_toList nx
    have HNX := hid hnx
    clear hnx
    by_cases he : x.data.toList = []
    · rw [decide_eq_true he] at hxe
      by_cases hp : s.ph = 3
      · have hn3 : nx.data.toList = [] := by rw [HNX.out, hp]; rfl
        rw [decide_eq_true hn3] at hne
        have hck := empty_toList s.cookie
        have hcn : ¬ s.cookie.data.toList = [] := fun q => (good_few HG.out).2.1 hp (by show s.cookie.data.size = 0; rw [← Array.length_toList, q]; rfl)
        rw [decide_eq_false hcn] at hck
        have HE := hid (contR_end (s := s) hk0 hkS (by rw [HXL.out]; exact he) hp)
        rw [HCO.out] at HE
        obtain ⟨av, cv, rfl, hst, hbv⟩ := HO3.out.strs
        have HST := hid hst; have HBV := hid hbv
        have HRX := hid (HN.out.blk HR1.out)
        have g0 := HRX.out.cellv 0 rfl; have g1 := HRX.out.cellv 1 rfl; have g2 := HRX.out.cellv 2 rfl; have g3 := HRX.out.lt; have g4 := HRX.out.frz
        clear he hp hn3 hcn hst hbv
        have hcx := HN.out.cellv (HC1.out (k + 1) (by have := HNN.out; omega))
        have HX2 := hid (HD.out (k + 1) (by have := HNN.out; omega) hkS)
        obtain ⟨y, hy⟩ : ∃ y, y = Lb[k + 1]'(by have := HNN.out; omega) := ⟨_, rfl⟩
        rw [← hy] at hcx HX2
        rw [← HX2.out] at HE
        clear hy
        have hye := empty_toList y
        by_cases hk2 : k + 2 = N
        · have h2I : ((k : Int) != (N : Int) - 2) = false := by rw [bne_eq_false_iff_eq]; omega
          by_cases hyn : y.data.toList = []
          · rw [decide_eq_true hyn] at hye
            have HR := hid (show res = .ok ⟨s.port, s.names, s.cookie⟩ by rw [HE.out, if_pos ⟨by have := HNS.out; omega, hyn⟩])
            clear hyn hk2
            go_wp2_with fail
            refine bodyPost_ret (v := msgV av cv ⟨s.port, s.names, s.cookie⟩) ?_ rfl ?_
            · have hB := ((((HRX.out.other (p := ⟨w.heap.size + 2, 3, none⟩) (u := .int .i64 k) (by simp)).set 0 (.int .i64 s.port)).set 1 (.slice av s.names.length cv)).set 2 (.string s.cookie)).row (cs' := #[.int .i64 s.port, .slice av s.names.length cv, .string s.cookie]) rfl
              exact results_cell_row rfl _ _ w.heap.size _ _ (0, 0) _ rfl hB Tryz.underlying34 rfl (by kernel_rfl)
            · have hM : Mod (fun j => j = w.heap.size) (wr.setCell ⟨w.heap.size + 2, 3, none⟩ (.int .i64 k)) ((((wr.setCell ⟨w.heap.size + 2, 3, none⟩ (.int .i64 k)).setCell ⟨w.heap.size, 0, none⟩ (.int .i64 s.port)).setCell ⟨w.heap.size, 1, none⟩ (.slice av s.names.length cv)).setCell ⟨w.heap.size, 2, none⟩ (.string s.cookie)) :=
                Mod.set (S := fun j => j = w.heap.size) (Mod.set (S := fun j => j = w.heap.size) (Mod.set (S := fun j => j = w.heap.size) (Mod.refl _ _) ⟨w.heap.size, 0, none⟩ _ (.inl rfl)) ⟨w.heap.size, 1, none⟩ _ (.inl rfl)) ⟨w.heap.size, 2, none⟩ _ (.inl rfl)
              have hO4 := HO3.out.mod hM (fun j q1 _ q3 => by omega)
              obtain ⟨a4, c4, q, q2, q5⟩ := hO4.strs
              cases q
              rw [HR.out]
              exact ⟨⟨av, cv, rfl, q2, fun x hx => by have := (q5 x hx).1; omega⟩, (HNW.out.trans HN3.out).trans' hM (fun j q1 q3 => by omega)⟩
          · rw [decide_eq_false hyn] at hye
            have HR := hid (show res = .error (k + 1) by rw [HE.out, if_neg (fun q => hyn q.2)])
            clear hyn hk2
            go_wp2
            exact ⟨rfl, RdOut.no HR.out, HNW.out.trans HN3.out⟩
        · have h2I : ((k : Int) != (N : Int) - 2) = true := by rw [bne_iff_ne]; omega
          have HR := hid (show res = .error (k + 1) by rw [HE.out, if_neg (fun q => hk2 (by have := HNS.out; omega))])
          clear hk2
          go_wp2
          exact ⟨rfl, RdOut.no HR.out, HNW.out.trans HN3.out⟩
      · have hn3 : ¬ nx.data.toList = [] := by
          rw [HNX.out]
          have := (good_few HG.out).2.2
          match s.ph, this, hp with
          | 0, _, _ => decide
          | 1, _, _ => decide
          | 2, _, _ => decide
          | n + 3, q1, q2 => exact absurd (show n + 3 = 3 by omega) q2
        rw [decide_eq_false hn3] at hne
        have HTK := hid (HTK.out (fun q => hp q.2))
        clear he hp hn3
        cases htk : takeP s x.data.toList with
        | none =>
          rw [htk] at HTK HTA
          have HR := hid HTK.out
          go_wp2_with (go_at_call 116; refine HTA.out.mono ?_; rintro e w5 ⟨rfl, m5⟩; have M5 := hid m5; clear m5)
          exact ⟨rfl, RdOut.no HR.out, HNW.out.trans (HN3.out.trans' M5.out (fun j q1 q2 => by omega))⟩
        | some s' =>
          rw [htk] at HTK HTA
          have HG2 := hid (HGD.out s' htk)
          have HR := hid HTK.out
          go_wp2_with (go_at_call 116; refine HTA.out.mono ?_; rintro e w5 ⟨⟨rfl, r5⟩, m5⟩; have M5 := hid m5; have R5 := hid r5; clear m5 r5)
          go_roundw
          case rel => exact ⟨k + 1, s', k, by simp, hk1, HR.out.symm, fun q => by omega, HG2.out, R5.out, HN3.out.trans' M5.out (fun j q1 q2 => by omega)⟩
          case measure => simp [intOf]; omega
    · rw [decide_eq_false he] at hxe
      have HTK := hid (HTK.out (fun q => he q.1))
      clear he
      cases htk : takeP s x.data.toList with
      | none =>
        rw [htk] at HTK HTA
        have HR := hid HTK.out
        go_wp2_with (go_at_call 116; refine HTA.out.mono ?_; rintro e w5 ⟨rfl, m5⟩; have M5 := hid m5; clear m5)
        exact ⟨rfl, RdOut.no HR.out, HNW.out.trans (HN3.out.trans' M5.out (fun j q1 q2 => by omega))⟩
      | some s' =>
        rw [htk] at HTK HTA
        have HG2 := hid (HGD.out s' htk)
        have HR := hid HTK.out
        go_wp2_with (go_at_call 116; refine HTA.out.mono ?_; rintro e w5 ⟨⟨rfl, r5⟩, m5⟩; have M5 := hid m5; have R5 := hid r5; clear m5 r5)
        go_roundw
        case rel => exact ⟨k + 1, s', k, by simp, hk1, HR.out.symm, fun q => by omega, HG2.out, R5.out, HN3.out.trans' M5.out (fun j q1 q2 => by omega)⟩
        case measure => simp [intOf]; omega
end Go.Proofs.YtnflhjagmngimaaGreatDoor
