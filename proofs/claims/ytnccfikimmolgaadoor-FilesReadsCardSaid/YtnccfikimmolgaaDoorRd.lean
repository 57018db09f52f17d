/-
  The walk of Read of package files, for every list, data and spans. Conditions: they lie as told; the library's table is as laid.
-/
import Derived.Test.YtnccfikimmolgaaDoorBld
import Derived.Test.YtnccfikimmolgaaDoorSpQ
import Derived.Test.YtnccfikimmolgaaDoorQuiet
import Derived.Deep.RegionHeld3
namespace Go.Proofs.YtnccfikimmolgaaDoor
set_option linter.unusedSimpArgs false
set_option linter.unusedVariables false
open Go.RowKit Go.Shelf

/-- Does the text fit the file? -/
def fitD (f : FileV) (t : ByteArray) : Bool := decide ((t.size : Int) = f.len) || (f.pad && decide (t.size = 0))
def fitsD (l : List FileV) (data : List ByteArray) : Bool := (l.zip data).all fun p => fitD p.1 p.2
/-- Does the span lie in its file? -/
def inF (l : List FileV) (s : SpanV) : Bool := decide (0 ≤ s.file ∧ s.file < l.length) && decide (0 ≤ s.frm) && decide (0 ≤ s.cnt) && (match l[s.file.toNat]? with | some f => decide (s.frm ≤ f.len) && decide (s.cnt ≤ f.len - s.frm) | none => false)
def readErr (l : List FileV) (data : List ByteArray) (S : List SpanV) : Int :=
  if validOf l then (if data.length = l.length then (if fitsD l data then (if S.all (inF l) then (if 65536 < cntOf S then 4 else 0) else 7) else 11) else 11) else 1
def zerosL (n : Nat) : List UInt8 := List.replicate n 0
/-- The bytes of a span. -/
def bytesOf (l : List FileV) (data : List ByteArray) (s : SpanV) : List UInt8 :=
  match l[s.file.toNat]?, data[s.file.toNat]? with
  | some f, some t => if f.pad then zerosL s.cnt.toNat else (t.data.toList.drop s.frm.toNat).take s.cnt.toNat
  | _, _ => []
def readOf (l : List FileV) (data : List ByteArray) (S : List SpanV) : List UInt8 := S.flatMap (bytesOf l data)
theorem inF_at {l : List FileV} {s : SpanV} (h : inF l s = true) : ∃ (k : Nat) (f : FileV), s.file = k ∧ k < l.length ∧ l[k]? = some f ∧ 0 ≤ s.frm ∧ 0 ≤ s.cnt ∧ s.frm ≤ f.len ∧ s.cnt ≤ f.len - s.frm := by
  unfold inF at h
  simp only [Bool.and_eq_true, decide_eq_true_eq] at h
  obtain ⟨⟨⟨⟨a0, a1⟩, a2⟩, a3⟩, a4⟩ := h
  obtain ⟨k, hk⟩ := Int.eq_ofNat_of_zero_le a0
  have hlt : k < l.length := by omega
  have hf : l[k]? = some l[k] := List.getElem?_eq_getElem hlt
  rw [hk] at a4
  simp only [Int.toNat_natCast, hf, Bool.and_eq_true, decide_eq_true_eq] at a4
  exact ⟨k, l[k], hk, hlt, hf, a2, a3, a4.1, a4.2⟩
theorem fitsD_at {l : List FileV} {data : List ByteArray} (hl : data.length = l.length) (h : fitsD l data = true) {k : Nat} {f : FileV} {t : ByteArray} (hf : l[k]? = some f) (ht : data[k]? = some t) : fitD f t = true := by
  unfold fitsD at h
  rw [List.all_eq_true] at h
  refine h (f, t) ?_
  refine List.mem_of_getElem? (i := k) ?_
  simp [List.getElem?_zip_eq_some, hf, ht]
/-- A span's bytes are as many as it says. -/
theorem bytes_len {l : List FileV} {data : List ByteArray} (hl : data.length = l.length) (h : fitsD l data = true) {s : SpanV} (hs : inF l s = true) : ((bytesOf l data s).length : Int) = s.cnt := by
  obtain ⟨k, f, hk, hlt, hf, h1, h2, h3, h4⟩ := inF_at hs
  have hd : data[k]? = some (data[k]'(by omega)) := List.getElem?_eq_getElem (by omega)
  have hfit := fitsD_at hl h hf hd
  unfold bytesOf
  rw [hk, Int.toNat_natCast, hf, hd]
  simp only
  cases hp : f.pad with
  | true => simp [zerosL]; omega
  | false =>
    simp only [fitD, hp, Bool.false_and, Bool.or_false, decide_eq_true_eq] at hfit
    simp
    omega
theorem read_len {l : List FileV} {data : List ByteArray} (hl : data.length = l.length) (h : fitsD l data = true) : ∀ {S : List SpanV}, S.all (inF l) = true → ((readOf l data S).length : Int) = cntOf S
  | [], _ => by simp [readOf, cntOf]
  | s :: S, hs => by
    simp only [List.all_cons, Bool.and_eq_true] at hs
    have h1 := bytes_len hl h hs.1
    have h2 := read_len hl h hs.2
    simp only [readOf, cntOf, List.flatMap_cons, List.length_append, List.map_cons, List.sum_cons] at *
    omega
theorem read_next {l : List FileV} {data : List ByteArray} {S : List SpanV} {k : Nat} (h : k < S.length) : readOf l data (S.take (k + 1)) = readOf l data (S.take k) ++ bytesOf l data S[k] := by
  unfold readOf
  rw [List.take_succ_eq_append_getElem h, List.flatMap_append]
  simp only [List.flatMap_cons, List.flatMap_nil, List.append_nil]
theorem ret_err {X : List UInt8} {E k : Int} (h1 : X = []) (h2 : E = k) : Ending.returned (.tuple #[.string ⟨#[]⟩, .int .i64 k]) = .returned (.tuple #[.string ⟨X.toArray⟩, .int .i64 E]) := by subst h1 h2; rfl
theorem ret_text {X Y : List UInt8} {E : Int} (h1 : X = Y) (h2 : E = 0) : Ending.returned (.tuple #[.string ⟨Y.toArray⟩, .int .i64 0]) = .returned (.tuple #[.string ⟨X.toArray⟩, .int .i64 E]) := by subst h1 h2; rfl
def readX (l : List FileV) (data : List ByteArray) (S : List SpanV) : List UInt8 := if readErr l data S = 0 then readOf l data S else []
theorem fit_next {l : List FileV} {data : List ByteArray} {k : Nat} {f : FileV} {t : ByteArray} (h : ∀ (i : Nat) (f : FileV) (t : ByteArray), i < k → l[i]? = some f → data[i]? = some t → fitD f t = true) (hf : l[k]? = some f) (ht : data[k]? = some t) (hh : fitD f t = true) : ∀ (i : Nat) (f : FileV) (t : ByteArray), i < k + 1 → l[i]? = some f → data[i]? = some t → fitD f t = true := by
  intro i g u hi hg hu
  by_cases e : i = k
  · subst e
    rw [hf] at hg; rw [ht] at hu
    cases hg; cases hu
    exact hh
  · exact h i g u (by omega) hg hu
theorem fits_not {l : List FileV} {data : List ByteArray} {k : Nat} {f : FileV} {t : ByteArray} (hf : l[k]? = some f) (ht : data[k]? = some t) (hh : fitD f t = false) : fitsD l data = false := by
  rw [Bool.eq_false_iff]
  intro h
  unfold fitsD at h
  rw [List.all_eq_true] at h
  have := h (f, t) (List.mem_of_getElem? (i := k) (by simp [List.getElem?_zip_eq_some, hf, ht]))
  rw [hh] at this
  cases this
theorem fits_all {l : List FileV} {data : List ByteArray} (h : ∀ (i : Nat) (f : FileV) (t : ByteArray), i < l.length → l[i]? = some f → data[i]? = some t → fitD f t = true) : fitsD l data = true := by
  unfold fitsD
  rw [List.all_eq_true]
  rintro ⟨f, t⟩ hm
  obtain ⟨i, hi⟩ := List.getElem?_of_mem hm
  rw [List.getElem?_zip_eq_some] at hi
  exact h i f t (List.getElem?_eq_some_iff.1 hi.1).1 hi.1 hi.2
theorem inF_step {l : List FileV} {S : List SpanV} {j : Nat} {s : SpanV} (ht : S.take (j + 1) = S.take j ++ [s]) (h : ∀ s ∈ S.take j, inF l s = true) (hs : inF l s = true) : ∀ s ∈ S.take (j + 1), inF l s = true := by
  intro x hx
  rw [ht] at hx
  rcases List.mem_append.1 hx with h1 | h1
  · exact h x h1
  · obtain rfl := List.mem_singleton.1 h1
    exact hs
theorem all_notF {l : List FileV} {S : List SpanV} {s : SpanV} (hm : s ∈ S) (h : inF l s = false) : ¬ S.all (inF l) = true := by
  intro q
  rw [List.all_eq_true] at q
  have := q s hm
  rw [h] at this
  cases this
theorem min_step {m c c' s : Int} (h : m = min c 65537) (h2 : c' = c + s) (h3 : 0 ≤ s) : min (m + s) 65537 = min c' 65537 := by subst h h2; omega
theorem inF_not {l : List FileV} {s : SpanV} (h : inF l s = false) : s.file < 0 ∨ (0 ≤ s.file ∧ (l.length : Int) ≤ s.file) ∨ ∃ (k : Nat) (f : FileV), s.file = k ∧ k < l.length ∧ l[k]? = some f ∧ (s.frm < 0 ∨ (0 ≤ s.frm ∧ s.cnt < 0) ∨ (0 ≤ s.frm ∧ 0 ≤ s.cnt ∧ f.len < s.frm) ∨ (0 ≤ s.frm ∧ 0 ≤ s.cnt ∧ s.frm ≤ f.len ∧ f.len - s.frm < s.cnt)) := by
  by_cases h0 : s.file < 0
  · exact .inl h0
  by_cases h1 : (l.length : Int) ≤ s.file
  · exact .inr (.inl ⟨by omega, h1⟩)
  obtain ⟨k, hk⟩ := Int.eq_ofNat_of_zero_le (show 0 ≤ s.file by omega)
  have hlt : k < l.length := by omega
  have hf : l[k]? = some l[k] := List.getElem?_eq_getElem hlt
  refine .inr (.inr ⟨k, l[k], hk, hlt, hf, ?_⟩)
  unfold inF at h
  rw [hk] at h
  simp only [Int.toNat_natCast, hf, Bool.and_eq_false_iff, decide_eq_false_iff_not] at h
  omega
theorem ext_drop (t : ByteArray) (r c : Nat) : (t.extract r (r + c)).data.toList = (t.data.toList.drop r).take c := by
  simp [ByteArray.data_extract, List.take_drop]
theorem ext_size (t : ByteArray) (r c : Nat) (h : r + c ≤ t.size) : (t.extract r (r + c)).size = c := by simp; omega
theorem span_kept {wr w4 : World} {b0 b2 o2 k : Nat} {k0 r cn : Int} {t : ByteArray} (h0 : b0 < wr.heap.size) (n : Wrote b0 (wr.alloc (.cells #[.int .i64 k0, .int .i64 r, .int .i64 cn] 42)).drew w4) (hb : b2 < b0) (e0 : wr.cell? ⟨b2, o2 + k, none⟩ = some (.string t)) :
    w4.cell? ⟨wr.heap.size, 0, none⟩ = some (.int .i64 k0) ∧ w4.cell? ⟨wr.heap.size, 1, none⟩ = some (.int .i64 r) ∧ w4.cell? ⟨wr.heap.size, 2, none⟩ = some (.int .i64 cn) ∧ w4.cell? ⟨b2, o2 + k, none⟩ = some (.string t) := by
  have h := n.blk (Blk.drew (Blk.new wr #[.int .i64 k0, .int .i64 r, .int .i64 cn] 42)) (by omega) (by decide)
  refine ⟨h.cellv 0 rfl, h.cellv 1 rfl, h.cellv 2 rfl, ?_⟩
  exact n.mod.cellv ((Mod.drew (Mod.alloc (Mod.refl (fun _ => False) wr) _)).cellv e0 (fun x => x)) (by simp; omega)
set_option maxRecDepth 100000 in
set_option maxHeartbeats 8000000 in
theorem Read_any (a da sa : Option Addr) (c dc sc : Nat) (l : List FileV) (data : List ByteArray) (S : List SpanV) (w : World) (h : FilesAt w a c l) (hd : StrsAt w da dc data) (hs : SpansAt w sa sc S) (ht : Tab w) :
    Calls Tryd.prog 34 #[.slice a l.length c, .slice da data.length dc, .slice sa S.length sc] w fun e w' => e = .returned (.tuple #[.string ⟨(readX l data S).toArray⟩, .int .i64 (readErr l data S)]) ∧ New w w' := by
  obtain ⟨E, hE⟩ : ∃ E, E = readErr l data S := ⟨_, rfl⟩
  obtain ⟨X, hX⟩ : ∃ X, X = readX l data S := ⟨_, rfl⟩
  rw [← hE, ← hX]
  have HX0 := hid (fun (hh : E ≠ 0) => show X = [] by rw [hX, readX, if_neg (by rw [← hE]; exact hh)])
  have hdl := hd.room; have hdc := hd.cap; have hsl := hs.room; have hsc := hs.cap; have hlr := h.room; have hlc := h.cap
  unfold maxLen at hdc hsc hlc
  cases hv : validOf l with
  | false =>
    have HV := hid (hv ▸ valid_any a c l w h ht : Calls Tryd.prog 15 #[.slice a l.length c] w fun e w' => e = .returned (.bool false) ∧ New w w')
    have hE1 : E = 1 := by rw [hE, readErr, hv]; rfl
    have HE := hid hE1
    clear h hd hs ht hv hE hX hE1
    go_enter Tryd.func34, Tryd.ntmps34
    go_wp2_with fail
    refine HV.out.mono ?_
    rintro e w1 ⟨rfl, n1⟩
    have N1 := hid n1
    clear n1
    go_wp2
    go_ret2
    exact ⟨ret_err (HX0.out (by rw [HE.out]; decide)) HE.out, N1.out⟩
  | true =>
    have HV := hid (hv ▸ valid_any a c l w h ht : Calls Tryd.prog 15 #[.slice a l.length c] w fun e w' => e = .returned (.bool true) ∧ New w w')
    obtain ⟨v1, v2, v3, v4⟩ := valid_facts hv
    have v5 := each_len v3
    have hEE : E = if data.length = l.length then (if fitsD l data then (if S.all (inF l) then (if 65536 < cntOf S then 4 else 0) else 7) else 11) else 11 := by rw [hE, readErr, hv, if_pos rfl]
    by_cases hlen : data.length = l.length
    · rw [if_pos hlen] at hEE
      have HVF := hid (fun f hf => And.intro (v3 f hf) (v5 f hf))
      have HV4 := hid v4
      obtain ⟨b1, o1, rfl, hb1, hc1⟩ := h.get (by omega)
      obtain ⟨b2, o2, rfl, hb2, hc2⟩ := hd.get (by omega)
      have HC1 := hid hc1; have HC2 := hid hc2; have HSP := hid hs; have HSM := hid hd.small
      have HEE := hid hEE; have HLEN := hid hlen; have HXX := hid hX; have HE0 := hid hE
      rw [hlen] at hdl ⊢
      clear h hd hs ht hv hE hX hEE v1 v3 v4 v5 hc1 hc2 hlen
      go_enter Tryd.func34, Tryd.ntmps34
      go_wp2_with fail
      refine HV.out.mono ?_
      rintro e w1 ⟨rfl, n1⟩
      have N1 := hid n1
      clear n1
      go_wp2
      go_loopw [26] (fun x wr => ∃ k : Nat, x = .int .i64 k ∧ k ≤ l.length ∧ (∀ (i : Nat) (f : FileV) (t : ByteArray), i < k → l[i]? = some f → data[i]? = some t → fitD f t = true) ∧ New w wr) (fun x _ => l.length - (intOf x).toNat)
      case atStart => exact ⟨0, rfl, by omega, by omega, N1.out⟩
      case round =>
        obtain ⟨k, rfl, hk, hfit, hn⟩ := hrel
        have HN := hid hn; have HFT := hid hfit
        clear hfit
        by_cases hlt : k < l.length
        · obtain ⟨pa, pc, d0, d1, d2, -, -⟩ := (HC1.out k hlt).new hn
          have hkd : k < data.length := by have := HLEN.out; omega
          have e0 := hn.cellv (HC2.out k hkd)
          have hsmall := HSM.out _ (List.getElem_mem hkd)
          unfold maxLen at hsmall
          have hbw1 : b1 < wr.heap.size := by have := hn.size; omega
          have hbw2 : b2 < wr.heap.size := by have := hn.size; omega
          have HFK := hid (List.getElem?_eq_getElem hlt); have HTK := hid (List.getElem?_eq_getElem hkd)
          obtain ⟨f, hf⟩ : ∃ f, f = l[k] := ⟨_, rfl⟩
          obtain ⟨t, htt⟩ : ∃ t, t = data[k] := ⟨_, rfl⟩
          rw [← hf] at d0 d1 d2 HFK
          rw [← htt] at e0 hsmall HTK
          clear hf htt hn hkd
          have hkI : (k : Int) < (l.length : Int) := by omega
          have HDF := hid d1
          by_cases hsz : (t.size : Int) = f.len
          · have HFI := hid (show fitD f t = true by simp [fitD, hsz])
            have hb1 : ((t.size : Int) == f.len) = true := by simpa using hsz
            have hb2 : ((t.size : Int) != f.len) = false := by simpa using hsz
            have hb3 : decide ((t.size : Int) = f.len) = true := decide_eq_true hsz
            clear hsz
            go_wp2
            go_quiet (fail)
            go_wp2
            exact ⟨⟨k + 1, by simp, by omega, fit_next HFT.out HFK.out HTK.out HFI.out, Mod.drewN (HN.out.alloc _) _⟩, by simp [intOf]; omega⟩
          · have hb1 : ((t.size : Int) == f.len) = false := by simpa using hsz
            have hb2 : ((t.size : Int) != f.len) = true := by simpa using hsz
            have hb3 : decide ((t.size : Int) = f.len) = false := decide_eq_false hsz
            cases hpad : f.pad with
            | false =>
              have HFI := hid (show fitD f t = false by simp [fitD, hsz, hpad])
              rw [hpad] at d2
              clear hpad
              go_wp2
              go_quiet (fail)
              go_wp2
              have hE1 : E = 11 := by rw [HEE.out, fits_not HFK.out HTK.out HFI.out]; rfl
              have HE1 := hid hE1
              clear hE1
              go_ret2
              exact ⟨ret_err (HX0.out (by rw [HE1.out]; decide)) HE1.out, Mod.drewN (HN.out.alloc _) _⟩
            | true =>
              rw [hpad] at d2
              by_cases h0 : t.size = 0
              · have hz1 : ((0 : Int) == f.len) = false := by have := hb1; rw [h0] at this; exact this
                have hz2 : ((0 : Int) != f.len) = true := by have := hb2; rw [h0] at this; exact this
                clear hb1 hb2 hb3
                obtain rfl : t = ⟨#[]⟩ := by
                  cases t
                  simp [ByteArray.size] at h0
                  rw [h0]
                have HFI := hid (show fitD f ⟨#[]⟩ = true by have hq : (⟨#[]⟩ : ByteArray).size = 0 := rfl; simp only [fitD, hpad, hq]; simp)
                clear hpad h0
                go_wp2
                go_quiet (fail)
                go_wp2
                exact ⟨⟨k + 1, by simp, by omega, fit_next HFT.out HFK.out HTK.out HFI.out, Mod.drewN (HN.out.alloc _) _⟩, by simp [intOf]; omega⟩
              · have HFI := hid (show fitD f t = false by simp [fitD, hsz, hpad, h0])
                have hem : t.toList.isEmpty = false := by
                  rw [ByteArray.toList_eq]
                  have hz : t.data.toList.length ≠ 0 := fun q => h0 (by rw [ByteArray.size, ← Array.length_toList]; exact q)
                  cases hq : t.data.toList with
                  | nil => rw [hq] at hz; exact absurd rfl hz
                  | cons x r => rfl
                clear hpad h0
                go_wp2
                go_quiet (fail)
                go_wp2
                have hE1 : E = 11 := by rw [HEE.out, fits_not HFK.out HTK.out HFI.out]; rfl
                have HE1 := hid hE1
                clear hE1
                go_ret2
                exact ⟨ret_err (HX0.out (by rw [HE1.out]; decide)) HE1.out, Mod.drewN (HN.out.alloc _) _⟩
        · have hfa : fitsD l data = true := fits_all (fun i f t h1 h2 h3 => HFT.out i f t (by have := (List.getElem?_eq_some_iff.1 h2).1; omega) h2 h3)
          have hE2 : E = if S.all (inF l) then (if 65536 < cntOf S then 4 else 0) else 7 := by rw [HEE.out, if_pos hfa]
          have HE2 := hid hE2; have HFA := hid hfa
          clear hE2 hfa hn
          go_wp2
          go_loopw [54, 10] (fun x nn wr => ∃ (j : Nat) (m : Int), x = .int .i64 j ∧ nn = .int .i64 m ∧ j ≤ S.length ∧ (∀ s ∈ S.take j, inF l s = true) ∧ m = min (cntOf (S.take j)) 65537 ∧ 0 ≤ m ∧ m ≤ 65537 ∧ New w wr) (fun x _ _ => S.length - (intOf x).toNat)
          case atStart => exact ⟨0, 0, rfl, rfl, by omega, by simp, by simp [cntOf]; omega, by omega, by omega, HN.out⟩
          case round =>
            clear HN HFT
            obtain ⟨j, m, rfl, rfl, hj, hin, hm, m0, m1, hn⟩ := hrel
            have HN := hid hn; have HIN := hid hin; have HM := hid hm
            clear hin hm
            by_cases hlt2 : j < S.length
            · obtain ⟨b3, o3, rfl, hb3, hc3⟩ := HSP.out.get (by omega)
              obtain ⟨g0, g1, g2⟩ := hc3 j hlt2
              have g0 := hn.cellv g0; have g1 := hn.cellv g1; have g2 := hn.cellv g2
              have hbw1 : b1 < wr.heap.size := by have := hn.size; omega
              have HSX := hid (List.getElem_mem hlt2)
              have HTN := hid (List.take_succ_eq_append_getElem hlt2)
              obtain ⟨s, hs⟩ : ∃ s, s = S[j] := ⟨_, rfl⟩
              rw [← hs] at g0 g1 g2 HSX HTN
              have HSJ := hid hs
              clear hc3 hs
              obtain ⟨sf, sr, sc⟩ := s
              simp only at g0 g1 g2
              cases hin : inF l ⟨sf, sr, sc⟩ with
              | true =>
                obtain ⟨k, f, hk, hlt, hf, h1, h2, h3, h4⟩ := inF_at hin
                simp only at hk h1 h2 h3 h4
                subst hk
                have HI := hid hin
                clear hin
                obtain ⟨pa, pc, d0, d1, d2, -, -⟩ := (HC1.out k hlt).new hn
                have hfe : l[k] = f := by rw [List.getElem?_eq_getElem hlt] at hf; exact Option.some.inj hf
                rw [hfe] at d1
                have hb := HVF.out f (hfe ▸ List.getElem_mem hlt)
                have hs4 := HV4.out
                obtain ⟨q0, q1⟩ := hb
                have hcn := cnt_next hlt2
                rw [← HSJ.out] at hcn
                have HNX := hid (hcn : cntOf (S.take (j + 1)) = cntOf (S.take j) + sc)
                clear hcn hfe hf d0 d2 hn
                have hkI : (k : Int) < (l.length : Int) := by omega
                have hk0 : (0 : Int) ≤ (k : Int) := by omega
                have hwr : IntKind.i64.wrap (f.len - sr) = f.len - sr := IntWalk.i64_in _ (by omega)
                go_wp2
                go_quiet (fail)
                clear hwr
                go_wp2
                exact ⟨⟨j + 1, min (m + sc) 65537, by simp, rfl, by omega, inF_step HTN.out HIN.out HI.out, min_step HM.out HNX.out h2, by omega, by omega, Mod.drewN (HN.out.alloc _) _⟩, by simp [intOf]; omega⟩
              | false =>
                have hE3 : E = 7 := by rw [HE2.out, if_neg (all_notF HSX.out hin)]
                have HE3 := hid hE3
                have hno := inF_not hin
                simp only at hno
                clear hin hE3
                clear hn
                rcases hno with h1 | ⟨h1, h2⟩ | ⟨k, f, rfl, hlt, hf, hrest⟩
                · have g9 : decide (sf < 0) = true := decide_eq_true h1
                  go_wp2
                  go_quiet (fail)
                  go_wp2
                  go_ret2
                  exact ⟨ret_err (HX0.out (by rw [HE3.out]; decide)) HE3.out, Mod.drewN (HN.out.alloc _) _⟩
                · have g8 : decide (sf < 0) = false := decide_eq_false (by omega)
                  have g9 : decide ((l.length : Int) ≤ sf) = true := decide_eq_true h2
                  go_wp2
                  go_quiet (fail)
                  go_wp2
                  go_ret2
                  exact ⟨ret_err (HX0.out (by rw [HE3.out]; decide)) HE3.out, Mod.drewN (HN.out.alloc _) _⟩
                · obtain ⟨pa, pc, d0, d1, d2, -, -⟩ := (HC1.out k hlt).new HN.out
                  have hfe : l[k] = f := by rw [List.getElem?_eq_getElem hlt] at hf; exact Option.some.inj hf
                  rw [hfe] at d1
                  have hb := HVF.out f (hfe ▸ List.getElem_mem hlt)
                  have hs4 := HV4.out
                  obtain ⟨q0, q1⟩ := hb
                  clear hfe hf d0 d2
                  have hkI : (k : Int) < (l.length : Int) := by omega
                  have hk0 : (0 : Int) ≤ (k : Int) := by omega
                  have e1 : decide ((k : Int) < 0) = false := decide_eq_false (by omega)
                  have e2 : decide (l.length ≤ k) = false := decide_eq_false (by omega)
                  rcases hrest with h1 | ⟨h1, h2⟩ | ⟨h1, h2, h3⟩ | ⟨h1, h2, h3, h4⟩
                  · have e3 : decide (sr < 0) = true := decide_eq_true h1
                    clear d1
                    go_wp2
                    go_quiet (fail)
                    go_wp2
                    go_ret2
                    exact ⟨ret_err (HX0.out (by rw [HE3.out]; decide)) HE3.out, Mod.drewN (HN.out.alloc _) _⟩
                  · have e3 : decide (sr < 0) = false := decide_eq_false (by omega)
                    have e4 : decide (sc < 0) = true := decide_eq_true h2
                    clear d1
                    go_wp2
                    go_quiet (fail)
                    go_wp2
                    go_ret2
                    exact ⟨ret_err (HX0.out (by rw [HE3.out]; decide)) HE3.out, Mod.drewN (HN.out.alloc _) _⟩
                  · have e3 : decide (sr < 0) = false := decide_eq_false (by omega)
                    have e4 : decide (sc < 0) = false := decide_eq_false (by omega)
                    have e5 : decide (f.len < sr) = true := decide_eq_true h3
                    go_wp2
                    go_quiet (fail)
                    go_wp2
                    go_ret2
                    exact ⟨ret_err (HX0.out (by rw [HE3.out]; decide)) HE3.out, Mod.drewN (HN.out.alloc _) _⟩
                  · have e3 : decide (sr < 0) = false := decide_eq_false (by omega)
                    have e4 : decide (sc < 0) = false := decide_eq_false (by omega)
                    have e5 : decide (f.len < sr) = false := decide_eq_false (by omega)
                    have hwr : IntKind.i64.wrap (f.len - sr) = f.len - sr := IntWalk.i64_in _ (by omega)
                    go_wp2
                    go_quiet (fail)
                    go_wp2
                    go_ret2
                    exact ⟨ret_err (HX0.out (by rw [HE3.out]; decide)) HE3.out, Mod.drewN (HN.out.alloc _) _⟩
            · have hjl : j = S.length := by omega
              subst hjl
              have hall : S.all (inF l) = true := List.all_eq_true.2 (fun s hs => HIN.out s (by rw [List.take_length]; exact hs))
              have hm2 : m = min (cntOf S) 65537 := by rw [HM.out, List.take_length]
              have hE3 : E = if 65536 < cntOf S then 4 else 0 := by rw [HE2.out, if_pos hall]
              have HALL := hid hall
              clear hall HIN HM hlt2 hn
              by_cases hbig : 65536 < cntOf S
              · have hE4 : E = 4 := by rw [hE3, if_pos hbig]
                have HE4 := hid hE4
                have hmb : 65536 < m := by omega
                clear hE3 hE4 hm2 hbig
                go_wp2
                go_ret2
                exact ⟨ret_err (HX0.out (by rw [HE4.out]; decide)) HE4.out, HN.out⟩
              · have hE4 : E = 0 := by rw [hE3, if_neg hbig]
                have HE4 := hid hE4
                have hmb : ¬ 65536 < m := by omega
                have hXR : X = readOf l data S := by rw [HXX.out, readX, if_pos (by rw [← HE0.out]; exact HE4.out)]
                have HXR := hid hXR
                have HLEN2 := hid (fun k => read_len (S := S.take k) HLEN.out HFA.out (List.all_eq_true.2 fun s hs => List.all_eq_true.1 HALL.out s (List.mem_of_mem_take hs)))
                have HCT := hid (fun k => cnt_take (S := S) (fun s hs => by obtain ⟨k, f, h1, h2, h3, h4, h5, h6⟩ := inF_at (List.all_eq_true.1 HALL.out s hs); exact h5) k)
                have HC65 := hid (show cntOf S ≤ 65536 by omega)
                clear hE3 hE4 hm2 hbig hXR
                go_wp2
                obtain ⟨wo, rfl⟩ : ∃ wo : World, wo = wr := ⟨_, rfl⟩
                obtain ⟨b0, hb0⟩ : ∃ b0, b0 = wo.heap.size := ⟨_, rfl⟩
                have HB0 := hid (show w.heap.size ≤ b0 by rw [hb0]; exact HN.out.size)
                have hfr : Bld (wo.alloc (.cells #[.pointer none, .slice none 0 0] 80)) b0 [] := by rw [hb0]; exact Bld.fresh wo
                have HFR := hid hfr
                rw [← hb0]
                clear hb0 hfr
                go_loopw [113] (fun x wr => ∃ (j : Nat), x = .int .i64 j ∧ j ≤ S.length ∧ Bld wr b0 (readOf l data (S.take j)) ∧ New w wr) (fun x _ => S.length - (intOf x).toNat)
                case atStart => exact ⟨0, rfl, by omega, by rw [List.take_zero]; exact HFR.out, HN.out.alloc _⟩
                case round =>
                  clear HFR HN
                  obtain ⟨j, rfl, hj, hbl, hn⟩ := hrel
                  have HN := hid hn; have HBL := hid hbl
                  clear hbl
                  by_cases hlt2 : j < S.length
                  · obtain ⟨b3, o3, rfl, hb3, hc3⟩ := HSP.out.get (by omega)
                    obtain ⟨g0, g1, g2⟩ := hc3 j hlt2
                    have g0 := hn.cellv g0; have g1 := hn.cellv g1; have g2 := hn.cellv g2
                    have HRN := hid (read_next (l := l) (data := data) hlt2)
                    have hln := HLEN2.out j
                    have hct := HCT.out j
                    have hcn := cnt_next hlt2
                    have hct2 := HCT.out (j + 1)
                    have h65 := HC65.out
                    have hin := List.all_eq_true.1 HALL.out _ (List.getElem_mem hlt2)
                    obtain ⟨s, hs⟩ : ∃ s, s = S[j] := ⟨_, rfl⟩
                    rw [← hs] at g0 g1 g2 hcn hin HRN
                    clear hc3 hs
                    obtain ⟨sf, sr, sc⟩ := s
                    simp only at g0 g1 g2
                    obtain ⟨k, f, hk, hlt, hf, h1, h2, h3, h4⟩ := inF_at hin
                    simp only at hk h1 h2 h3 h4
                    obtain ⟨r, rfl⟩ := Int.eq_ofNat_of_zero_le h1
                    obtain ⟨cn, rfl⟩ := Int.eq_ofNat_of_zero_le h2
                    subst hk
                    have hL : (readOf l data (S.take j)).length + cn ≤ 65536 := by simp only at hcn; omega
                    have HLL := hid hL
                    clear hln hct hcn hct2 h65 hin hL
                    have hkd : k < data.length := by have := HLEN.out; omega
                    obtain ⟨pa, pc, d0, d1, d2, -, -⟩ := (HC1.out k hlt).new hn
                    have hfe : l[k] = f := by rw [List.getElem?_eq_getElem hlt] at hf; exact Option.some.inj hf
                    have hdt : data[k]? = some data[k] := List.getElem?_eq_getElem hkd
                    have e0 := hn.cellv (HC2.out k hkd)
                    obtain ⟨t, ht⟩ : ∃ t, t = data[k] := ⟨_, rfl⟩
                    rw [← ht] at hdt e0
                    have hfit := fitsD_at HLEN.out HFA.out hf hdt
                    have hby : bytesOf l data ⟨k, r, cn⟩ = if f.pad then zerosL cn else (t.data.toList.drop r).take cn := by simp [bytesOf, hf, hdt]
                    rw [hby] at HRN
                    rw [hfe] at d1 d2
                    have hb := HVF.out f (hfe ▸ List.getElem_mem hlt)
                    have hs4 := HV4.out
                    obtain ⟨q0, q1⟩ := hb
                    clear hfe hf d0 d1 hdt ht hby
                    have hbw1 : b1 < wr.heap.size := by have := hn.size; omega
                    have hbw2 : b2 < wr.heap.size := by have := hn.size; omega
                    have hbw3 : b3 < wr.heap.size := by have := hn.size; omega
                    clear hn
                    have hkI : (k : Int) < (l.length : Int) := by omega
                    have hk0 : (0 : Int) ≤ (k : Int) := by omega
                    have hkd2 : (k : Int) < (data.length : Int) := by omega
                    cases hpad : f.pad with
                    | true =>
                      rw [hpad] at d2 HRN
                      rw [if_pos rfl] at HRN
                      clear hpad hfit e0
                      have hc47 : cn ≤ 140737488355328 := by omega
                      go_wp2_with fail
                      refine (repeat_any cn _ hc47).mono ?_
                      rintro e w3 ⟨rfl, n3⟩
                      have N3 := hid (Mod.trans ((Mod.refl (fun _ => False) wr).alloc _) n3)
                      clear n3
                      go_wp2_with fail
                      refine (write_any _ _ _ _ (HBL.out.new N3.out) (by have := HLL.out; rw [size_list]; simp; omega)).mono ?_
                      rintro e w4 ⟨rfl, b4, n4⟩
                      have B4 := hid b4; have N4 := hid n4
                      clear b4 n4
                      go_wp2
                      go_roundw
                      case rel => exact ⟨j + 1, by simp, by omega, by rw [HRN.out]; simpa [zerosL] using B4.out, Wrote.new (HN.out.trans N3.out) N4.out HB0.out⟩
                      case measure => simp [intOf]; omega
                    | false =>
                      rw [hpad] at d2 HRN
                      simp only [Bool.false_eq_true, if_false] at HRN
                      have hfs : (t.size : Int) = f.len := by simpa [fitD, hpad] using hfit
                      have hrs : r + cn ≤ t.size := by omega
                      clear hpad hfit hfs
                      have hx : (t.extract r (r + cn)).data.toList = (t.data.toList.drop r).take cn := ext_drop t r cn
                      have HEX := hid hx
                      clear hx
                      have hxs := ext_size t r cn hrs
                      have HXS := hid hxs
                      clear hxs
                      have hwr : IntKind.i64.wrap ((r : Int) + (cn : Int)) = (r : Int) + (cn : Int) := IntWalk.i64_in _ (by omega)
                      have hnt : ((r : Int) + (cn : Int)).toNat = r + cn := by omega
                      have hle : (r : Int) ≤ (r : Int) + (cn : Int) := by omega
                      have hle2 : (r : Int) + (cn : Int) ≤ (t.size : Int) := by omega
                      have HBB := hid (show b0 < wr.heap.size from HBL.out.lt)
                      have HC0 := hid (show b2 < b0 by have := HB0.out; omega)
                      go_wp2
                      go_region_held3 (fun w' => w'.cell? ⟨wr.heap.size, 0, none⟩ = some (.int .i64 k) ∧ w'.cell? ⟨wr.heap.size, 1, none⟩ = some (.int .i64 r) ∧ w'.cell? ⟨wr.heap.size, 2, none⟩ = some (.int .i64 cn) ∧ w'.cell? ⟨b2, o2 + k, none⟩ = some (.string t)) ((first | exact HK4.out | go_keep)) ((go_at_call 52; refine (write_any b0 (readOf l data (S.take j)) _ _ ?_ ?_).mono ?_; (focus (first | exact HBL.out.new (Mod.drew (Mod.alloc (Mod.refl _ _) _)) | exact HBL.out.new (Mod.alloc (Mod.refl _ _) _))); (focus (have := HLL.out; have := HXS.out; omega)); rintro e w4 ⟨rfl, b4, n4⟩; have B4 := hid b4; have N4 := hid n4; have HK4 := hid (span_kept HBB.out n4 HC0.out e0); clear b4 n4))
                      go_wp2
                      go_roundw
                      case rel => exact ⟨j + 1, by simp, by omega, by rw [HRN.out, ← HEX.out]; exact B4.out, Wrote.new (HN.out.trans ((Mod.alloc (Mod.refl _ _) _).drew)) N4.out HB0.out⟩
                      case measure => simp [intOf]; omega
                  · have hjl : j = S.length := by omega
                    subst hjl
                    clear hn hlt2
                    rw [List.take_length] at HBL
                    go_wp2_with (go_at_call 54; refine (string_any _ _ _ HBL.out).mono ?_; rintro e w4 ⟨rfl, -, n4⟩; have N4 := hid n4; clear n4)
                    go_ret2
                    exact ⟨ret_text HXR.out HE4.out, Wrote.new HN.out N4.out HB0.out⟩
    · have hE1 : E = 11 := by rw [hEE, if_neg hlen]
      have HE1 := hid hE1
      have hne1 : ((data.length : Int) != (l.length : Int)) = true := by simp; omega
      clear h hd hs ht hv hE hX hE1 hEE hlen v1 v3 v4 v5
      go_enter Tryd.func34, Tryd.ntmps34
      go_wp2_with fail
      refine HV.out.mono ?_
      rintro e w1 ⟨rfl, n1⟩
      have N1 := hid n1
      clear n1
      go_wp2
      go_ret2
      exact ⟨ret_err (HX0.out (by rw [HE1.out]; decide)) HE1.out, N1.out⟩
end Go.Proofs.YtnccfikimmolgaaDoor
