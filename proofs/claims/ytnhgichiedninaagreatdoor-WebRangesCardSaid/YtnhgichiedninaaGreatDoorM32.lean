/-
  Several texts in one, in their build order. The walk of the reference's Read, for every list, data and spans. Conditions: they lie as told.
-/
import Derived.Test.YtnhgichiedninaaGreatDoorM24
import Derived.Test.YtnhgichiedninaaGreatDoorM29
import Derived.Laws.IdiomStrings
import Derived.Outline
namespace Go.Proofs.YtnhgichiedninaaGreatDoor
set_option linter.unusedSimpArgs false
set_option linter.unusedVariables false
open Go.RowKit Go.Shelf

/-- What the reference holds for a file. -/
def textF (f : FileV) (t : ByteArray) : ByteArray := if f.pad then ⟨(zerosL f.len.toNat).toArray⟩ else t
def textI (l : List FileV) (data : List ByteArray) (i : Nat) : ByteArray :=
  match l[i]?, data[i]? with
  | some f, some t => textF f t
  | _, _ => ⟨#[]⟩
/-- .. behind k rounds. -/
def allV (l : List FileV) (data : List ByteArray) (k : Nat) : Array Value := Array.ofFn (n := l.length) fun i => .string (if i.1 < k then textI l data i.1 else ⟨#[]⟩)
theorem allV_at {l : List FileV} {data : List ByteArray} {k i : Nat} (h : i < l.length) : (allV l data k)[i]? = some (.string (if i < k then textI l data i else ⟨#[]⟩)) := by
  simp [allV, h]
theorem allV_zero {l : List FileV} {data : List ByteArray} : allV l data 0 = Array.replicate l.length (.string ⟨#[]⟩) := by
  apply Array.ext
  · simp [allV]
  · intro i h1 h2
    simp [allV]
theorem allV_size {l : List FileV} {data : List ByteArray} {k : Nat} : (allV l data k).size = l.length := by simp [allV]
theorem allV_set {l : List FileV} {data : List ByteArray} {k : Nat} {u : ByteArray} (h : textI l data k = u) : (allV l data k).setIfInBounds k (.string u) = allV l data (k + 1) := by
  apply Array.ext_getElem?
  intro i
  by_cases hi : i < l.length
  · rw [Array.getElem?_setIfInBounds, allV_at hi, allV_at hi, allV_size]
    by_cases e : k = i
    · subst e
      simp [h, hi]
    · rw [if_neg e]
      by_cases q : i < k
      · rw [if_pos q, if_pos (by omega)]
      · rw [if_neg q, if_neg (by omega)]
  · rw [Array.getElem?_eq_none (by simp [allV]; omega), Array.getElem?_eq_none (by simp [allV]; omega)]
theorem allV_set2 {l : List FileV} {data : List ByteArray} {k : Nat} {u v : ByteArray} (h : textI l data k = v) : ((allV l data k).setIfInBounds k (.string u)).setIfInBounds k (.string v) = allV l data (k + 1) := by
  rw [← allV_set h]
  simp
theorem text_at {l : List FileV} {data : List ByteArray} {k : Nat} {f : FileV} {t : ByteArray} (hf : l[k]? = some f) (ht : data[k]? = some t) : textI l data k = textF f t := by simp [textI, hf, ht]
theorem text_size {f : FileV} {t : ByteArray} (h0 : 0 ≤ f.len) (h : fitD f t = true) : ((textF f t).size : Int) = f.len := by
  unfold textF
  cases hp : f.pad with
  | true => rw [if_pos rfl, size_list]; simp [zerosL]; omega
  | false => simpa [fitD, hp] using h
/-- A span's bytes, cut out of what the reference holds. -/
theorem text_bytes {l : List FileV} {data : List ByteArray} {k r c : Nat} {f : FileV} {t : ByteArray} (hf : l[k]? = some f) (ht : data[k]? = some t) (hr : (r : Int) + c ≤ f.len) : ((textF f t).extract r (r + c)).data.toList = bytesOf l data ⟨k, r, c⟩ := by
  have e : bytesOf l data ⟨k, r, c⟩ = if f.pad then zerosL c else (t.data.toList.drop r).take c := by simp [bytesOf, hf, ht]
  rw [e, ext_drop]
  unfold textF
  cases hp : f.pad with
  | true => simp [zerosL]; omega
  | false => simp
theorem add_bytes (a b : ByteArray) : (a ++ b).data.toList = a.data.toList ++ b.data.toList := by simp
theorem ret_str2 {X : List UInt8} {o : ByteArray} {E : Int} (h1 : o.data.toList = X) (h2 : E = 0) : Ending.returned (.tuple #[.string o, .int .i64 0]) = .returned (.tuple #[.string ⟨X.toArray⟩, .int .i64 E]) := by
  subst h1 h2
  rfl
theorem i_str : (Tryz.prog.info? 9).map (fun i => (i.zero, i.size, i.bytes)) = some (some (.string ⟨#[]⟩), 1, 16) := by kernel_rfl
theorem i_byte : (Tryz.prog.info? 5).map (fun i => (i.zero, i.size, i.bytes)) = some (some (.int .u8 0), 1, 1) := by kernel_rfl
theorem made_one (v : Value) (n : Nat) (hv : v.cells = #[v]) : madeCells v.cells n = Array.replicate n v := by
  apply Array.ext
  · simp [madeCells]
  · intro i h1 h2
    simp [madeCells, hv, Nat.mod_one]
theorem make_strs (n : Nat) (h : n ≤ 65536) (w : World) : (Instr.makeSlice 22 (.int .i64 n) (.int .i64 n)).run Tryz.prog w = .ok (.slice (some ⟨w.heap.size, 0, none⟩) n n) (w.alloc (.cells (Array.replicate n (.string ⟨#[]⟩)) 9)) := by
  obtain ⟨i0, hi, hz0, hz1, hz2⟩ := info_parts i_str
  have hr := run_makeSlice (P := Tryz.prog) w 22 9 i0 _ Tryz.underlying22 hi hz0 .i64 .i64 n n (by omega) (by omega) (by rw [hz1]; omega) (by rw [hz2]; omega) (by omega)
  rw [hr, hz1, Nat.mul_one, made_one _ _ rfl]
  simp
theorem make_bytes (n : Nat) (h : n ≤ 65536) (w : World) : (Instr.makeSlice 83 (.int .i64 n) (.int .i64 n)).run Tryz.prog w = .ok (.slice (some ⟨w.heap.size, 0, none⟩) n n) (w.alloc (.cells (Array.replicate n (.int .u8 0)) 5)) := by
  obtain ⟨i0, hi, hz0, hz1, hz2⟩ := info_parts i_byte
  have hr := run_makeSlice (P := Tryz.prog) w 83 5 i0 _ Tryz.underlying83 hi hz0 .i64 .i64 n n (by omega) (by omega) (by rw [hz1]; omega) (by rw [hz2]; omega) (by omega)
  rw [hr, hz1, Nat.mul_one, made_one _ _ rfl]
  simp
theorem conv_zero (n B : Nat) (w : World) (hB : B = w.heap.size) : (convert 83 9 (.slice (some ⟨B, 0, none⟩) n n)).run Tryz.prog (w.alloc (.cells (Array.replicate n (.int .u8 0)) 5)) = .ok (.string ⟨(zerosL n).toArray⟩) (w.alloc (.cells (Array.replicate n (.int .u8 0)) 5)) := by
  subst hB
  have h := run_convert_bytes_back (P := Tryz.prog) (w.alloc (.cells (Array.replicate n (.int .u8 0)) 5)) 83 9 5 ⟨w.heap.size, 0, none⟩ n (zerosL n) Tryz.underlying83 Tryz.underlying5 Tryz.underlying9 (fun j hj => by
    have hj' : j < n := by simpa [zerosL] using hj
    have := (Blk.new w (Array.replicate n (.int .u8 0)) 5).cellv (v := .int .u8 0) j (by simp [hj'])
    have e : (⟨w.heap.size, 0, none⟩ : Addr).add j = ⟨w.heap.size, j, none⟩ := by simp [Addr.add]; intro q; rw [q]
    rw [e, this]
    simp [zerosL])
  simpa [zerosL] using h
theorem min_step2 {m c c' s : Int} (h : m = min c 131072) (h2 : c' = c + s) (h3 : 0 ≤ s) : min (m + s) 131072 = min c' 131072 := by subst h h2; omega
theorem Blk.drewN' {w : World} {b : Nat} {cs : Array Value} {t : TypeId} (h : Blk w b cs t) (n : Nat) : Blk (w.drewN n) b cs t := h
set_option maxRecDepth 100000 in
set_option maxHeartbeats 8000000 in
theorem rRead_any (a da sa : Option Addr) (c dc sc : Nat) (l : List FileV) (data : List ByteArray) (S : List SpanV) (w : World) (h : FilesAt w a c l) (hd : StrsAt w da dc data) (hs : SpansAt w sa sc S) :
    Calls Tryz.prog 28 #[.slice a l.length c, .slice da data.length dc, .slice sa S.length sc] w fun e w' => e = .returned (.tuple #[.string ⟨(readX l data S).toArray⟩, .int .i64 (readErr l data S)]) ∧ New w w' := by
  obtain ⟨E, hE⟩ : ∃ E, E = readErr l data S := ⟨_, rfl⟩
  obtain ⟨X, hX⟩ : ∃ X, X = readX l data S := ⟨_, rfl⟩
  rw [← hE, ← hX]
  have HX0 := hid (fun (hh : E ≠ 0) => show X = [] by rw [hX, readX, if_neg (by rw [← hE]; exact hh)])
  have hdl := hd.room; have hdc := hd.cap; have hsl := hs.room; have hsc := hs.cap; have hlr := h.room; have hlc := h.cap
  unfold maxLen at hdc hsc hlc
  cases hv : validOf l with
  | false =>
    have HV := hid (hv ▸ rvalid_any a c l w h : Calls Tryz.prog 61 #[.slice a l.length c] w fun e w' => e = .returned (.bool false) ∧ New w w')
    have hE1 : E = 1 := by rw [hE, readErr, hv]; rfl
    have HE := hid hE1
    clear h hd hs hv hE hX hE1
    go_enter Tryz.func28, Tryz.ntmps28
    go_wp2_with fail
    refine HV.out.mono ?_
    rintro e w1 ⟨rfl, n1⟩
    have N1 := hid n1
    clear n1
    go_wp2
    go_ret2
    exact ⟨ret_err (HX0.out (by rw [HE.out]; decide)) HE.out, N1.out⟩
  | true =>
    have HV := hid (hv ▸ rvalid_any a c l w h : Calls Tryz.prog 61 #[.slice a l.length c] w fun e w' => e = .returned (.bool true) ∧ New w w')
    obtain ⟨v1, v2, v3, v4⟩ := valid_facts hv
    have v5 := each_len v3
    have hEE : E = if data.length = l.length then (if fitsD l data then (if S.all (inF l) then (if 65536 < cntOf S then 4 else 0) else 7) else 11) else 11 := by rw [hE, readErr, hv, if_pos rfl]
    by_cases hlen : data.length = l.length
    · rw [if_pos hlen] at hEE
      have HVF := hid (fun f hf => And.intro (v3 f hf) (v5 f hf))
      have HV4 := hid v4
      obtain ⟨b1, o1, rfl, hb1, hc1⟩ := h.get (by omega)
      obtain ⟨b2, o2, rfl, hb2, hc2⟩ := hd.get (by omega)
      have HC1 := hid hc1; have HC2 := hid hc2; have HSP := hid hs; have HSM := hid hd.small
      have HEE := hid hEE; have HLEN := hid hlen; have HXX := hid hX; have HE0 := hid hE
      rw [hlen] at hdl ⊢
      clear h hd hs hv hE hX hEE v1 v3 v4 v5 hc1 hc2 hlen
      go_enter Tryz.func28, Tryz.ntmps28
      go_wp2_with fail
      refine HV.out.mono ?_
      rintro e w1 ⟨rfl, n1⟩
      have N1 := hid n1
      clear n1
      have hms := make_strs l.length (by omega)
      go_wp2
      clear hms
      obtain ⟨g, hg⟩ : ∃ g, g = w1.heap.size := ⟨_, rfl⟩
      have HG0 := hid (show w.heap.size ≤ g by rw [hg]; exact N1.out.size)
      have hfr : Blk (w1.alloc (.cells (Array.replicate l.length (.string ⟨#[]⟩)) 9)) g (allV l data 0) 9 := by rw [hg, allV_zero]; exact Blk.new _ _ _
      have HFR := hid hfr
      rw [← hg]
      clear hg hfr
      go_loopw [30] (fun x wr => ∃ k : Nat, x = .int .i64 k ∧ k ≤ l.length ∧ (∀ (i : Nat) (f : FileV) (t : ByteArray), i < k → l[i]? = some f → data[i]? = some t → fitD f t = true) ∧ Blk wr g (allV l data k) 9 ∧ New w wr) (fun x _ => l.length - (intOf x).toNat)
      case atStart => exact ⟨0, rfl, by omega, by omega, HFR.out, N1.out.alloc _⟩
      case round =>
        clear HFR
        obtain ⟨k, rfl, hk, hfit, hblk, hn⟩ := hrel
        have HN := hid hn; have HFT := hid hfit; have HB := hid hblk
        clear hfit hblk
        by_cases hlt : k < l.length
        · obtain ⟨pa, pc, d0, d1, d2, -, -⟩ := (HC1.out k hlt).new hn
          have hkd : k < data.length := by have := HLEN.out; omega
          have e0 := hn.cellv (HC2.out k hkd)
          have hsmall := HSM.out _ (List.getElem_mem hkd)
          unfold maxLen at hsmall
          have hbw1 : b1 < wr.heap.size := by have := hn.size; omega
          have hbw2 : b2 < wr.heap.size := by have := hn.size; omega
          have HFK := hid (List.getElem?_eq_getElem hlt); have HTK := hid (List.getElem?_eq_getElem hkd)
          obtain ⟨f, hf⟩ : ∃ f, f = l[k] := ⟨_, rfl⟩
          obtain ⟨t, htt⟩ : ∃ t, t = data[k] := ⟨_, rfl⟩
          rw [← hf] at d0 d1 d2 HFK
          rw [← htt] at e0 hsmall HTK
          clear hf htt hn hkd
          have hkI : (k : Int) < (l.length : Int) := by omega
          have hgw : g < wr.heap.size := HB.out.lt
          have HGN := hid hgw
          have hgc := HB.out.cellv k (allV_at hlt)
          rw [if_neg (Nat.lt_irrefl k)] at hgc
          have hgf := HB.out.frz k
          have HTX := hid (text_at HFK.out HTK.out)
          have hbf := HVF.out f (by have := List.mem_of_getElem? HFK.out; exact this)
          have hs4 := HV4.out
          obtain ⟨q0, q1⟩ := hbf
          have HDF := hid d1
          by_cases hsz : (t.size : Int) = f.len
          · have HFI := hid (show fitD f t = true by simp [fitD, hsz])
            have hb1 : ((t.size : Int) == f.len) = true := by simpa using hsz
            have hb2 : ((t.size : Int) != f.len) = false := by simpa using hsz
            have hb3 : decide ((t.size : Int) = f.len) = true := decide_eq_true hsz
            clear hsz
            cases hpad : f.pad with
            | false =>
              have HTF := hid (HTX.out.trans (by rw [textF, hpad]; rfl : textF f t = t))
              rw [hpad] at d2
              clear hpad
              go_wp2
              go_quiet (fail)
              go_wp2
              refine ⟨⟨k + 1, by simp, by omega, fit_next HFT.out HFK.out HTK.out HFI.out, ?_, ?_⟩, by simp [intOf]; omega⟩
              · apply Blk.row
                · repeat (first | with_reducible exact HB.out | (with_reducible apply Blk.newAt; (simp; done)) | with_reducible apply Blk.alloc | with_reducible apply Blk.drew | with_reducible apply Blk.drewN | with_reducible apply Blk.set | (with_reducible apply Blk.other; · first | (simp; done) | (simp; omega) | omega) | (with_reducible apply Blk.putObj; · first | (simp; done) | (simp; omega) | omega))
                · exact allV_set HTF.out
              · have hg0 := HG0.out
                repeat (first | with_reducible exact HN.out | with_reducible refine Mod.alloc ?_ _ | with_reducible refine Mod.drew ?_ | with_reducible refine Mod.drewN ?_ _ | (with_reducible refine Mod.set ?_ _ _ (by first | exact .inl rfl | (right; omega) | (right; simp; done) | (right; simp; omega) | (left; omega) | (left; simp; done) | (left; simp; omega))) | (with_reducible refine Mod.putObj ?_ _ _ (by first | exact .inl rfl | (right; omega) | (right; simp; done) | (right; simp; omega) | (left; omega) | (left; simp; done) | (left; simp; omega))))
            | true =>
              obtain ⟨m, hm⟩ := Int.eq_ofNat_of_zero_le q0
              have HTF := hid (HTX.out.trans (by rw [textF, hpad, hm]; rfl : textF f t = ⟨(zerosL m).toArray⟩))
              rw [hpad] at d2
              rw [hm] at d1 hb1 hb2 hb3 q0 q1
              have HMF := hid hm
              clear hpad hm
              have hmk := make_bytes m (by omega)
              have hcz := conv_zero m (wr.heap.size + 1)
              go_wp2
              go_quiet (fail)
              go_wp2
              clear hmk hcz
              refine ⟨⟨k + 1, by simp, by omega, fit_next HFT.out HFK.out HTK.out HFI.out, ?_, ?_⟩, by simp [intOf]; omega⟩
              · apply Blk.row
                · repeat (first | with_reducible exact HB.out | (with_reducible apply Blk.newAt; (simp; done)) | with_reducible apply Blk.alloc | with_reducible apply Blk.drew | with_reducible apply Blk.drewN | with_reducible apply Blk.set | (with_reducible apply Blk.other; · first | (simp; done) | (simp; omega) | omega) | (with_reducible apply Blk.putObj; · first | (simp; done) | (simp; omega) | omega))
                · exact allV_set2 HTF.out
              · have hg0 := HG0.out
                repeat (first | with_reducible exact HN.out | with_reducible refine Mod.alloc ?_ _ | with_reducible refine Mod.drew ?_ | with_reducible refine Mod.drewN ?_ _ | (with_reducible refine Mod.set ?_ _ _ (by first | exact .inl rfl | (right; omega) | (right; simp; done) | (right; simp; omega) | (left; omega) | (left; simp; done) | (left; simp; omega))) | (with_reducible refine Mod.putObj ?_ _ _ (by first | exact .inl rfl | (right; omega) | (right; simp; done) | (right; simp; omega) | (left; omega) | (left; simp; done) | (left; simp; omega))))
          · have hb1 : ((t.size : Int) == f.len) = false := by simpa using hsz
            have hb2 : ((t.size : Int) != f.len) = true := by simpa using hsz
            have hb3 : decide ((t.size : Int) = f.len) = false := decide_eq_false hsz
            cases hpad : f.pad with
            | false =>
              have HFI := hid (show fitD f t = false by simp [fitD, hsz, hpad])
              rw [hpad] at d2
              clear hpad
              go_wp2
              go_quiet (fail)
              go_wp2
              have hE1 : E = 11 := by rw [HEE.out, fits_not HFK.out HTK.out HFI.out]; rfl
              have HE1 := hid hE1
              clear hE1
              go_ret2
              exact ⟨ret_err (HX0.out (by rw [HE1.out]; decide)) HE1.out, Mod.drewN (HN.out.alloc _) _⟩
            | true =>
              rw [hpad] at d2
              by_cases h0 : t.size = 0
              · have hz1 : ((0 : Int) == f.len) = false := by have := hb1; rw [h0] at this; exact this
                have hz2 : ((0 : Int) != f.len) = true := by have := hb2; rw [h0] at this; exact this
                clear hb1 hb2 hb3
                obtain rfl : t = ⟨#[]⟩ := by
                  cases t
                  simp [ByteArray.size] at h0
                  rw [h0]
                have HFI := hid (show fitD f ⟨#[]⟩ = true by have hq : (⟨#[]⟩ : ByteArray).size = 0 := rfl; simp only [fitD, hpad, hq]; simp)
                obtain ⟨m, hm⟩ := Int.eq_ofNat_of_zero_le q0
                have HTF := hid (HTX.out.trans (by rw [textF, hpad, hm]; rfl : textF f ⟨#[]⟩ = ⟨(zerosL m).toArray⟩))
                rw [hm] at d1 hz1 hz2 q0 q1
                clear hpad h0 hm hsz
                have hmk := make_bytes m (by omega)
                have hcz := conv_zero m (wr.heap.size + 1)
                go_wp2
                go_quiet (fail)
                go_wp2
                clear hmk hcz
                refine ⟨⟨k + 1, by simp, by omega, fit_next HFT.out HFK.out HTK.out HFI.out, ?_, ?_⟩, by simp [intOf]; omega⟩
                · apply Blk.row
                  · repeat (first | with_reducible exact HB.out | (with_reducible apply Blk.newAt; (simp; done)) | with_reducible apply Blk.alloc | with_reducible apply Blk.drew | with_reducible apply Blk.drewN | with_reducible apply Blk.set | (with_reducible apply Blk.other; · first | (simp; done) | (simp; omega) | omega) | (with_reducible apply Blk.putObj; · first | (simp; done) | (simp; omega) | omega))
                  · exact allV_set2 HTF.out
                · have hg0 := HG0.out
                  repeat (first | with_reducible exact HN.out | with_reducible refine Mod.alloc ?_ _ | with_reducible refine Mod.drew ?_ | with_reducible refine Mod.drewN ?_ _ | (with_reducible refine Mod.set ?_ _ _ (by first | exact .inl rfl | (right; omega) | (right; simp; done) | (right; simp; omega) | (left; omega) | (left; simp; done) | (left; simp; omega))) | (with_reducible refine Mod.putObj ?_ _ _ (by first | exact .inl rfl | (right; omega) | (right; simp; done) | (right; simp; omega) | (left; omega) | (left; simp; done) | (left; simp; omega))))
              · have HFI := hid (show fitD f t = false by simp [fitD, hsz, hpad, h0])
                have hem : t.toList.isEmpty = false := by
                  rw [ByteArray.toList_eq]
                  have hz : t.data.toList.length ≠ 0 := fun q => h0 (by rw [ByteArray.size, ← Array.length_toList]; exact q)
                  cases hq : t.data.toList with
                  | nil => rw [hq] at hz; exact absurd rfl hz
                  | cons x r => rfl
                clear hpad h0
                go_wp2
                go_quiet (fail)
                go_wp2
                have hE1 : E = 11 := by rw [HEE.out, fits_not HFK.out HTK.out HFI.out]; rfl
                have HE1 := hid hE1
                clear hE1
                go_ret2
                exact ⟨ret_err (HX0.out (by rw [HE1.out]; decide)) HE1.out, Mod.drewN (HN.out.alloc _) _⟩
        · have hfa : fitsD l data = true := fits_all (fun i f t h1 h2 h3 => HFT.out i f t (by have := (List.getElem?_eq_some_iff.1 h2).1; omega) h2 h3)
          have hE2 : E = if S.all (inF l) then (if 65536 < cntOf S then 4 else 0) else 7 := by rw [HEE.out, if_pos hfa]
          have HE2 := hid hE2; have HFA := hid hfa
          clear hE2 hfa hn
          obtain rfl : k = l.length := by omega
          go_wp2
          go_loopw [74, 11] (fun x nn wr => ∃ (j : Nat) (m : Int), x = .int .i64 j ∧ nn = .int .i64 m ∧ j ≤ S.length ∧ (∀ s ∈ S.take j, inF l s = true) ∧ m = min (cntOf (S.take j)) 131072 ∧ 0 ≤ m ∧ m ≤ 131072 ∧ Blk wr g (allV l data l.length) 9 ∧ New w wr) (fun x _ _ => S.length - (intOf x).toNat)
          case atStart => exact ⟨0, 0, rfl, rfl, by omega, by simp, by simp [cntOf]; omega, by omega, by omega, HB.out, HN.out⟩
          case round =>
            clear HN HFT HB
            obtain ⟨j, m, rfl, rfl, hj, hin, hm, m0, m1, hblk, hn⟩ := hrel
            have HB := hid hblk
            clear hblk
            have HN := hid hn; have HIN := hid hin; have HM := hid hm
            clear hin hm
            by_cases hlt2 : j < S.length
            · obtain ⟨b3, o3, rfl, hb3, hc3⟩ := HSP.out.get (by omega)
              obtain ⟨g0, g1, g2⟩ := hc3 j hlt2
              have g0 := hn.cellv g0; have g1 := hn.cellv g1; have g2 := hn.cellv g2
              have hbw1 : b1 < wr.heap.size := by have := hn.size; omega
              have HSX := hid (List.getElem_mem hlt2)
              have HTN := hid (List.take_succ_eq_append_getElem hlt2)
              obtain ⟨s, hs⟩ : ∃ s, s = S[j] := ⟨_, rfl⟩
              rw [← hs] at g0 g1 g2 HSX HTN
              have HSJ := hid hs
              clear hc3 hs
              obtain ⟨sf, sr, sc⟩ := s
              simp only at g0 g1 g2
              cases hin : inF l ⟨sf, sr, sc⟩ with
              | true =>
                obtain ⟨k, f, hk, hlt, hf, h1, h2, h3, h4⟩ := inF_at hin
                simp only at hk h1 h2 h3 h4
                subst hk
                have HI := hid hin
                clear hin
                obtain ⟨pa, pc, d0, d1, d2, -, -⟩ := (HC1.out k hlt).new hn
                have hfe : l[k] = f := by rw [List.getElem?_eq_getElem hlt] at hf; exact Option.some.inj hf
                rw [hfe] at d1
                have hb := HVF.out f (hfe ▸ List.getElem_mem hlt)
                have hs4 := HV4.out
                obtain ⟨q0, q1⟩ := hb
                have hcn := cnt_next hlt2
                rw [← HSJ.out] at hcn
                have HNX := hid (hcn : cntOf (S.take (j + 1)) = cntOf (S.take j) + sc)
                clear hcn hfe hf d0 d2 hn
                have hkI : (k : Int) < (l.length : Int) := by omega
                have hk0 : (0 : Int) ≤ (k : Int) := by omega
                have hwr : IntKind.i64.wrap (f.len - sr) = f.len - sr := IntWalk.i64_in _ (by omega)
                go_wp2
                go_quiet (fail)
                clear hwr
                go_wp2
                exact ⟨⟨j + 1, min (m + sc) 131072, by simp, rfl, by omega, inF_step HTN.out HIN.out HI.out, min_step2 HM.out HNX.out h2, by omega, by omega, (HB.out.alloc _).drewN' _, Mod.drewN (HN.out.alloc _) _⟩, by simp [intOf]; omega⟩
              | false =>
                have hE3 : E = 7 := by rw [HE2.out, if_neg (all_notF HSX.out hin)]
                have HE3 := hid hE3
                have hno := inF_not hin
                simp only at hno
                clear hin hE3
                clear hn
                rcases hno with h1 | ⟨h1, h2⟩ | ⟨k, f, rfl, hlt, hf, hrest⟩
                · have g9 : decide (sf < 0) = true := decide_eq_true h1
                  go_wp2
                  go_quiet (fail)
                  go_wp2
                  go_ret2
                  exact ⟨ret_err (HX0.out (by rw [HE3.out]; decide)) HE3.out, Mod.drewN (HN.out.alloc _) _⟩
                · have g8 : decide (sf < 0) = false := decide_eq_false (by omega)
                  have g9 : decide ((l.length : Int) ≤ sf) = true := decide_eq_true h2
                  go_wp2
                  go_quiet (fail)
                  go_wp2
                  go_ret2
                  exact ⟨ret_err (HX0.out (by rw [HE3.out]; decide)) HE3.out, Mod.drewN (HN.out.alloc _) _⟩
                · obtain ⟨pa, pc, d0, d1, d2, -, -⟩ := (HC1.out k hlt).new HN.out
                  have hfe : l[k] = f := by rw [List.getElem?_eq_getElem hlt] at hf; exact Option.some.inj hf
                  rw [hfe] at d1
                  have hb := HVF.out f (hfe ▸ List.getElem_mem hlt)
                  have hs4 := HV4.out
                  obtain ⟨q0, q1⟩ := hb
                  clear hfe hf d0 d2
                  have hkI : (k : Int) < (l.length : Int) := by omega
                  have hk0 : (0 : Int) ≤ (k : Int) := by omega
                  have e1 : decide ((k : Int) < 0) = false := decide_eq_false (by omega)
                  have e2 : decide (l.length ≤ k) = false := decide_eq_false (by omega)
                  rcases hrest with h1 | ⟨h1, h2⟩ | ⟨h1, h2, h3⟩ | ⟨h1, h2, h3, h4⟩
                  · have e3 : decide (sr < 0) = true := decide_eq_true h1
                    clear d1
                    go_wp2
                    go_quiet (fail)
                    go_wp2
                    go_ret2
                    exact ⟨ret_err (HX0.out (by rw [HE3.out]; decide)) HE3.out, Mod.drewN (HN.out.alloc _) _⟩
                  · have e3 : decide (sr < 0) = false := decide_eq_false (by omega)
                    have e4 : decide (sc < 0) = true := decide_eq_true h2
                    clear d1
                    go_wp2
                    go_quiet (fail)
                    go_wp2
                    go_ret2
                    exact ⟨ret_err (HX0.out (by rw [HE3.out]; decide)) HE3.out, Mod.drewN (HN.out.alloc _) _⟩
                  · have e3 : decide (sr < 0) = false := decide_eq_false (by omega)
                    have e4 : decide (sc < 0) = false := decide_eq_false (by omega)
                    have e5 : decide (f.len < sr) = true := decide_eq_true h3
                    go_wp2
                    go_quiet (fail)
                    go_wp2
                    go_ret2
                    exact ⟨ret_err (HX0.out (by rw [HE3.out]; decide)) HE3.out, Mod.drewN (HN.out.alloc _) _⟩
                  · have e3 : decide (sr < 0) = false := decide_eq_false (by omega)
                    have e4 : decide (sc < 0) = false := decide_eq_false (by omega)
                    have e5 : decide (f.len < sr) = false := decide_eq_false (by omega)
                    have hwr : IntKind.i64.wrap (f.len - sr) = f.len - sr := IntWalk.i64_in _ (by omega)
                    go_wp2
                    go_quiet (fail)
                    go_wp2
                    go_ret2
                    exact ⟨ret_err (HX0.out (by rw [HE3.out]; decide)) HE3.out, Mod.drewN (HN.out.alloc _) _⟩
            · have hjl : j = S.length := by omega
              subst hjl
              have hall : S.all (inF l) = true := List.all_eq_true.2 (fun s hs => HIN.out s (by rw [List.take_length]; exact hs))
              have hm2 : m = min (cntOf S) 131072 := by rw [HM.out, List.take_length]
              have hE3 : E = if 65536 < cntOf S then 4 else 0 := by rw [HE2.out, if_pos hall]
              have HALL := hid hall
              clear hall HIN HM hlt2 hn
              by_cases hbig : 65536 < cntOf S
              · have hE4 : E = 4 := by rw [hE3, if_pos hbig]
                have HE4 := hid hE4
                have hmb : 65536 < m := by omega
                clear hE3 hE4 hm2 hbig
                go_wp2
                go_ret2
                exact ⟨ret_err (HX0.out (by rw [HE4.out]; decide)) HE4.out, HN.out⟩
              · have hE4 : E = 0 := by rw [hE3, if_neg hbig]
                have HE4 := hid hE4
                have hmb : ¬ 65536 < m := by omega
                have hXR : X = readOf l data S := by rw [HXX.out, readX, if_pos (by rw [← HE0.out]; exact HE4.out)]
                have HXR := hid hXR
                have HLEN2 := hid (fun k => read_len (S := S.take k) HLEN.out HFA.out (List.all_eq_true.2 fun s hs => List.all_eq_true.1 HALL.out s (List.mem_of_mem_take hs)))
                have HCT := hid (fun k => cnt_take (S := S) (fun s hs => by obtain ⟨k, f, h1, h2, h3, h4, h5, h6⟩ := inF_at (List.all_eq_true.1 HALL.out s hs); exact h5) k)
                have HC65 := hid (show cntOf S ≤ 65536 by omega)
                clear hE3 hE4 hm2 hbig hXR
                go_wp2
                go_loopw [133, 14] (fun x oo wr => ∃ (j : Nat) (o : ByteArray), x = .int .i64 j ∧ oo = .string o ∧ j ≤ S.length ∧ o.data.toList = readOf l data (S.take j) ∧ o.size ≤ 65536 ∧ Blk wr g (allV l data l.length) 9 ∧ New w wr) (fun x _ _ => S.length - (intOf x).toNat)
                case atStart => exact ⟨0, ⟨#[]⟩, rfl, rfl, by omega, rfl, by decide, HB.out, HN.out⟩
                case round =>
                  clear HN HB
                  obtain ⟨j, o, rfl, rfl, hj, ho, ho2, hblk, hn⟩ := hrel
                  have HN := hid hn; have HB := hid hblk; have HO := hid ho
                  clear hblk ho
                  by_cases hlt2 : j < S.length
                  · obtain ⟨b3, o3, rfl, hb3, hc3⟩ := HSP.out.get (by omega)
                    obtain ⟨g0, g1, g2⟩ := hc3 j hlt2
                    have g0 := hn.cellv g0; have g1 := hn.cellv g1; have g2 := hn.cellv g2
                    have HRN := hid (read_next (l := l) (data := data) hlt2)
                    have hln := HLEN2.out j
                    have hct := HCT.out j
                    have hcn := cnt_next hlt2
                    have hct2 := HCT.out (j + 1)
                    have h65 := HC65.out
                    have hin := List.all_eq_true.1 HALL.out _ (List.getElem_mem hlt2)
                    obtain ⟨s, hs⟩ : ∃ s, s = S[j] := ⟨_, rfl⟩
                    rw [← hs] at g0 g1 g2 hcn hin HRN
                    clear hc3 hs
                    obtain ⟨sf, sr, sc⟩ := s
                    simp only at g0 g1 g2
                    obtain ⟨k, f, hk, hlt, hf, h1, h2, h3, h4⟩ := inF_at hin
                    simp only at hk h1 h2 h3 h4
                    obtain ⟨r, rfl⟩ := Int.eq_ofNat_of_zero_le h1
                    obtain ⟨cn, rfl⟩ := Int.eq_ofNat_of_zero_le h2
                    subst hk
                    have hos : o.size = (readOf l data (S.take j)).length := by rw [← HO.out, Array.length_toList]; rfl
                    have hL : o.size + cn ≤ 65536 := by simp only at hcn; omega
                    clear hln hct hcn hct2 h65 hin hos
                    have hkd : k < data.length := by have := HLEN.out; omega
                    have hdt : data[k]? = some data[k] := List.getElem?_eq_getElem hkd
                    obtain ⟨t0, ht⟩ : ∃ t, t = data[k] := ⟨_, rfl⟩
                    rw [← ht] at hdt
                    have hfit := fitsD_at HLEN.out HFA.out hf hdt
                    have hb := HVF.out f (List.mem_of_getElem? hf)
                    have hts := text_size hb.1 hfit
                    have hex := text_bytes hf hdt (r := r) (c := cn) (by omega)
                    have hcell := HB.out.cellv k (allV_at hlt)
                    rw [if_pos hlt, text_at hf hdt] at hcell
                    have hs4 := HV4.out
                    obtain ⟨q0, q1⟩ := hb
                    obtain ⟨t, htt⟩ : ∃ t, t = textF f t0 := ⟨_, rfl⟩
                    rw [← htt] at hts hex hcell
                    have hrs : r + cn ≤ t.size := by omega
                    have HEX := hid hex
                    have hxs := ext_size t r cn hrs
                    have hxs2 : (t.extract r (r + cn)).size ≤ cn := by omega
                    have hgw : g < wr.heap.size := HB.out.lt
                    clear hf hdt hfit hts hex htt ht hn hxs
                    have hkI : (k : Int) < (l.length : Int) := by omega
                    have hk0 : (0 : Int) ≤ (k : Int) := by omega
                    have hwr : IntKind.i64.wrap ((r : Int) + (cn : Int)) = (r : Int) + (cn : Int) := IntWalk.i64_in _ (by omega)
                    have hnt : ((r : Int) + (cn : Int)).toNat = r + cn := by omega
                    have hle : (r : Int) ≤ (r : Int) + (cn : Int) := by omega
                    have hle2 : (r : Int) + (cn : Int) ≤ (t.size : Int) := by omega
                    have hadd : ∀ w, (Op.stringOp .add o (t.extract r (r + cn))).run Tryz.prog w = .ok (.string (o ++ t.extract r (r + cn))) w := fun w => run_string_add_sum (w := w) o _ (by omega)
                    go_wp2
                    go_region_held3 (fun w' => w'.cell? ⟨wr.heap.size, 0, none⟩ = some (.int .i64 k) ∧ w'.cell? ⟨wr.heap.size, 1, none⟩ = some (.int .i64 r) ∧ w'.cell? ⟨wr.heap.size, 2, none⟩ = some (.int .i64 cn) ∧ w'.cell? ⟨g, k, none⟩ = some (.string t)) (go_keep) (fail)
                    clear hwr hnt hle hle2 hadd
                    go_wp2
                    go_roundw
                    case rel => exact ⟨j + 1, o ++ t.extract r (r + cn), by simp, rfl, by omega, by rw [add_bytes, HO.out, HEX.out, HRN.out], by simp only [ByteArray.size_append]; omega, HB.out.alloc _, (Mod.alloc HN.out _).drew⟩
                    case measure => simp [intOf]; omega
                  · have hjl : j = S.length := by omega
                    subst hjl
                    clear hn hlt2
                    have hfin : o.data.toList = X := by rw [HO.out, List.take_length, HXR.out]
                    have HF := hid hfin
                    clear hfin
                    go_wp2
                    go_ret2
                    exact ⟨ret_str2 HF.out HE4.out, HN.out⟩
    · have hE1 : E = 11 := by rw [hEE, if_neg hlen]
      have HE1 := hid hE1
      have hne1 : ((data.length : Int) != (l.length : Int)) = true := by simp; omega
      clear h hd hs hv hE hX hE1 hEE hlen v1 v3 v4 v5
      go_enter Tryz.func28, Tryz.ntmps28
      go_wp2_with fail
      refine HV.out.mono ?_
      rintro e w1 ⟨rfl, n1⟩
      have N1 := hid n1
      clear n1
      go_wp2
      go_ret2
      exact ⟨ret_err (HX0.out (by rw [HE1.out]; decide)) HE1.out, N1.out⟩
end Go.Proofs.YtnhgichiedninaaGreatDoor
