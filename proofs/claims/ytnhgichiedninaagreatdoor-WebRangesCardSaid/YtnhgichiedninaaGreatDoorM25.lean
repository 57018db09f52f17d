/-
  Several texts in one, in their build order. The iterator over the spans of a run of pieces (package web), whatever the loop's rounds do that go on and leave its own list alone. Conditions: as they stand. The texts of a run's parts put together as pieces: what each span gets, each piece's text as the spans come, and that it is what reading gives. Plain Lean, no program. No condition.
-/
import Derived.Test.YtnhgichiedninaaGreatDoorM24
import Derived.Test.YtnhgichiedninaaGreatDoorM22
namespace Go.Proofs.YtnhgichiedninaaGreatDoor
set_option linter.unusedSimpArgs false
set_option linter.unusedVariables false
open Go.RowKit Go.Shelf
attribute [local go_sem] Oper.semAt_some

/-- The spans of a run, with the numbers of their pieces. -/
def runP (l : List FileV) (piece : Int) (new : Bool) (fr : Int) (n : Nat) : List (Int × SpanV) := (List.range n).flatMap fun j : Nat => (spansOf l piece new (fr + j)).map fun s => (fr + (j : Int), s)
theorem runP_next (l : List FileV) (piece : Int) (new : Bool) (fr : Int) (n : Nat) : runP l piece new fr (n + 1) = runP l piece new fr n ++ (spansOf l piece new (fr + n)).map fun s => (fr + (n : Int), s) := by
  unfold runP
  rw [List.range_succ, List.flatMap_append]
  simp
theorem runP_snd (l : List FileV) (piece : Int) (new : Bool) (fr : Int) : ∀ n, (runP l piece new fr n).map (·.2) = runSp l piece new fr n
  | 0 => rfl
  | n + 1 => by
    rw [runP_next, run_next, List.map_append, runP_snd l piece new fr n, List.map_map]
    congr 1
    exact (List.map_congr_left (fun x _ => rfl)).trans (List.map_id _)
theorem runP_pre (l : List FileV) (piece : Int) (new : Bool) (fr : Int) : ∀ (d k : Nat), ∃ rest, runP l piece new fr (k + d) = runP l piece new fr k ++ rest
  | 0, k => ⟨[], by simp⟩
  | d + 1, k => by
    obtain ⟨r, hr⟩ := runP_pre l piece new fr d k
    exact ⟨r ++ (spansOf l piece new (fr + ((k + d : Nat) : Int))).map (fun s => (fr + ((k + d : Nat) : Int), s)), by rw [show k + (d + 1) = k + d + 1 by omega, runP_next, hr, List.append_assoc]⟩
theorem OwnS.spansB {w : World} {base : Nat} {v : Value} {S : List SpanV} (h : OwnS w base v S) : ∃ a c, v = .slice a S.length c ∧ SpansAt w a c S ∧ ∀ x, a = some x → base ≤ x.block ∧ x.block < w.heap.size := by
  obtain ⟨a, c, rfl, hs⟩ := h.spans
  refine ⟨a, c, rfl, hs, fun x hx => ?_⟩
  rcases h.2 with ⟨q, hn⟩ | ⟨g, cap, cur, q, hbg, hg, -⟩
  · injection q with q
    rw [q] at hx
    cases hx
  · injection q with q
    rw [q] at hx
    injection hx with hx
    subst hx
    exact ⟨hbg, (Array.getElem?_eq_some_iff.1 hg).1⟩
theorem SpansAt.same {w w' : World} {a : Option Addr} {c : Nat} {S : List SpanV} (h : SpansAt w a c S) (hs : ∀ x, a = some x → w'.heap[x.block]? = w.heap[x.block]?) : SpansAt w' a c S := by
  obtain ⟨h1, h2, h3⟩ := h
  refine ⟨h1, h2, ?_⟩
  rcases h3 with h3 | ⟨b, o, e, hb, hc⟩
  · exact .inl h3
  · have e2 := hs _ e
    have hlt : b < w'.heap.size := by
      have h4 : w'.heap[b]? = some w.heap[b] := e2.trans (Array.getElem?_eq_getElem hb)
      exact (Array.getElem?_eq_some_iff.1 h4).1
    refine .inr ⟨b, o, e, hlt, fun i s hi => ?_⟩
    have := hc i s hi
    unfold World.cell? at this ⊢
    rw [e2]
    exact this
set_option maxRecDepth 100000 in
set_option maxHeartbeats 4000000 in
theorem wspans_iter (a : Option Addr) (c : Nat) (l : List FileV) (piece : Int) (new : Bool) (fr : Int) (n B lp m : Nat) (hm : 1 ≤ m) (Inv : List (Int × SpanV) → World → Prop) (Far : World → Nat → Prop)
    (hI : ∀ T W, Inv T W → Blk W B #[.slice a l.length c] 54 ∧ Blk W (B + 1) #[.int .i64 piece] 3 ∧ Blk W (B + 2) #[.bool new] 4 ∧ Blk W (B + 3) #[.int .i64 fr, .int .i64 n] 34 ∧ FilesAt W a c l ∧ Tab W)
    (hN : ∀ T W W', Inv T W → New W W' → Inv T W')
    (hF : ∀ T W W' b, Inv T W → New W W' → (W.heap.size ≤ b ∨ Far W b) → Far W' b)
    (hY : ∀ T (j : Nat) s W, Inv T W → j < n → s ∈ spansOf l piece new (fr + j) → (∃ rest, T ++ (fr + (j : Int), s) :: rest = runP l piece new fr n) → YieldAt Fence.wide (m - 1) Tryz.prog lp #[.int .i64 (fr + (j : Int)), spanV s] W fun e W' => e = .returned (.bool true) ∧ Inv (T ++ [(fr + (j : Int), s)]) W' ∧ ∀ b, b < W.heap.size → Far W b → W'.heap[b]? = W.heap[b]? ∧ Far W' b)
    (W : World) (h0 : Inv [] W) (hv : wayErr l piece = 0) (f0 : 0 ≤ fr) (f1 : fr + n ≤ piecesOf l piece new) :
    CallsIn Fence.wide m Tryz.prog 95 #[.func (.yield lp) #[] #[], .pointer (some ⟨B + 3, 0, none⟩), .pointer (some ⟨B, 0, none⟩), .pointer (some ⟨B + 1, 0, none⟩), .pointer (some ⟨B + 2, 0, none⟩)] W fun e W' => (∃ v, e = .returned v) ∧ Inv (runP l piece new fr n) W' := by
  refine callsIn_of_wp Tryz.func95 rfl trivial ?_ rfl
  simp only [Tryz.ntmps95, List.size_toArray, List.length_cons, List.length_nil, Nat.reduceAdd, Nat.reduceSub, Array.replicate_succ, Array.replicate_zero, List.push_toArray, List.append_toArray, List.nil_append, List.cons_append]
  obtain ⟨p0, p1⟩ := pieces_le (new := new) hv
  have hpc : 16 ≤ piece ∧ piece ≤ 1024 := by
    obtain ⟨-, hp⟩ := way_ok hv
    exact piece_range hp
  have HI := hid hI; have HN := hid hN; have HY := hid hY; have HF := hid hF; have H0 := hid h0; have HV := hid hv
  have n0 : (n : Int) ≤ 70000 := by omega
  have fr1 : fr ≤ 70000 := by omega
  have F1 := hid f1
  obtain ⟨b0, b1, b2, b3, -⟩ := hI _ _ h0
  have c3 := b3.cellv 0 rfl
  clear hI hN hY hF h0 hv f1 b0 b1 b2 b3
  gi_wp2
  gi_loopw [6] (fun i wr => ∃ (k : Nat), i = .int .i64 (fr + (k : Int)) ∧ k ≤ n ∧ Inv (runP l piece new fr k) wr) (fun i _ => (fr + (n : Int) - intOf i).toNat)
  case atStart => exact ⟨0, by simp, by omega, H0.out⟩
  case round =>
    obtain ⟨k, rfl, hk, hinv⟩ := hrel
    have HV0 := hid hinv
    obtain ⟨b0, b1, b2, b3, bf, bt⟩ := HI.out _ _ hinv
    have HB0 := hid b0; have HBF := hid bf; have HBT := hid bt
    have d0 := b0.cellv 0 rfl; have d1 := b1.cellv 0 rfl; have d2 := b2.cellv 0 rfl; have d3 := b3.cellv 0 rfl; have d4 := b3.cellv 1 rfl
    clear hinv b0 b1 b2 b3 bf bt c3
    by_cases hlt : k < n
    · have hltI : fr + (k : Int) < fr + (n : Int) := by omega
      have HSP := hid (Spans_ok a c l piece (fr + (k : Int)) new wr HBF.out HBT.out (by omega) (by omega) HV.out (by omega) (by have := F1.out; omega))
      obtain ⟨S, hS⟩ : ∃ S, S = spansOf l piece new (fr + (k : Int)) := ⟨_, rfl⟩
      rw [← hS] at HSP
      have HS := hid hS
      have HNX := hid (runP_next l piece new fr k)
      rw [← hS] at HNX
      clear hS
      gi_wp2_with (refine ⟨trivial, ?_⟩; gi_at_call 96; refine (callsIn_wide.2 HSP.out).mono ?_; rintro e w1 ⟨v, rfl, ho, n1⟩; obtain ⟨av, cv, rfl, hsp, hbk⟩ := ho.spansB; have HSA := hid hsp; have HBK := hid hbk; have HN1 := hid n1; have hr1 := hsp.room; have hr2 := hsp.cap; unfold maxLen at hr2; clear ho n1 hsp hbk)
      have HV1 := hid (HN.out _ _ _ HV0.out HN1.out)
      have HFA : Hid (∀ x, av = some x → Far w1 x.block) := hid (fun x hx => HF.out _ _ _ _ HV0.out HN1.out (.inl (HBK.out x hx).1))
      gi_loopw [32] (fun q wq => ∃ (j : Nat), q = .int .i64 j ∧ j ≤ S.length ∧ Inv (runP l piece new fr k ++ (S.take j).map (fun s => (fr + (k : Int), s))) wq ∧ ∀ x, av = some x → Far wq x.block ∧ wq.heap[x.block]? = w1.heap[x.block]?) (fun q _ => S.length - (intOf q).toNat)
      case atStart => exact ⟨0, rfl, by omega, by simpa using HV1.out, fun x hx => ⟨HFA.out x hx, rfl⟩⟩
      case round =>
        obtain ⟨j, rfl, hj, hiv, hfr⟩ := hrel
        have HIV := hid hiv; have HFR := hid hfr
        have hsq := HSA.out.same (fun x hx => (hfr x hx).2)
        clear hiv hfr
        by_cases hjl : j < S.length
        · obtain ⟨bb, oo, rfl, hbb, hcc⟩ := hsq.get (by omega)
          obtain ⟨g0, g1, g2⟩ := hcc j hjl
          obtain ⟨s, hs⟩ : ∃ s, s = S[j] := ⟨_, rfl⟩
          rw [← hs] at g0 g1 g2
          have HSM := hid (show s ∈ spansOf l piece new (fr + (k : Int)) by rw [← HS.out, hs]; exact List.getElem_mem _)
          have HTK := hid (show (S.take (j + 1)).map (fun s => (fr + (k : Int), s)) = (S.take j).map (fun s => (fr + (k : Int), s)) ++ [(fr + (k : Int), s)] by
            rw [List.take_add_one, List.getElem?_eq_getElem hjl, ← hs, List.map_append]
            rfl)
          have HPR := hid (show ∃ rest, (runP l piece new fr k ++ (S.take j).map (fun s => (fr + (k : Int), s))) ++ (fr + (k : Int), s) :: rest = runP l piece new fr n by
            obtain ⟨d, hd⟩ : ∃ d, n = (k + 1) + d := ⟨n - (k + 1), by omega⟩
            obtain ⟨r1, hr1⟩ := runP_pre l piece new fr d (k + 1)
            have e1 : S.map (fun s => (fr + (k : Int), s)) = (S.take j).map (fun s => (fr + (k : Int), s)) ++ (fr + (k : Int), s) :: (S.drop (j + 1)).map (fun s => (fr + (k : Int), s)) := by
              conv => lhs; rw [← List.take_append_drop j S, List.map_append, List.drop_eq_getElem_cons hjl, ← hs, List.map_cons]
            refine ⟨(S.drop (j + 1)).map (fun s => (fr + (k : Int), s)) ++ r1, ?_⟩
            rw [hd, hr1, HNX.out, e1]
            simp)
          clear hs hcc hsq
          obtain ⟨fn, tmps, assign, body, hy, hR⟩ := HY.out _ k s (wr.alloc (.cells #[.int .i64 s.file, .int .i64 s.frm, .int .i64 s.cnt] 113)) (HN.out _ _ _ HIV.out ((Mod.refl _ _).alloc _)) hlt HSM.out HPR.out
          have HR := hid hR
          clear hR
          gi_wp2
          refine HR.out.mono ?_
          rintro e W2 ⟨rfl, hi2, hk2⟩
          have HI2 := hid hi2
          have HZ2 : Hid (∀ x, (some (⟨bb, oo, none⟩ : Addr)) = some x → Far W2 x.block ∧ W2.heap[x.block]? = w1.heap[x.block]?) := hid (by
            have hb1 : bb < wr.heap.size := hbb
            have hfar : Far (wr.alloc (.cells #[.int .i64 s.file, .int .i64 s.frm, .int .i64 s.cnt] 113)) bb := HF.out _ _ _ _ HIV.out ((Mod.refl _ _).alloc _) (.inr (HFR.out _ rfl).1)
            obtain ⟨k1, k2⟩ := hk2 bb (by simp; omega) hfar
            have k3 : W2.heap[bb]? = wr.heap[bb]? := k1.trans (Below.heap_alloc _ _ _ hb1)
            intro x hx
            injection hx with hx
            subst hx
            exact ⟨k2, k3.trans (HFR.out _ rfl).2⟩)
          clear hi2 hk2
          gi_wp2
          go_roundw
          case rel => exact ⟨j + 1, by simp, by omega, by rw [HTK.out, ← List.append_assoc]; exact HI2.out, HZ2.out⟩
          case measure => simp [intOf]; omega
        · obtain rfl : j = S.length := by omega
          rw [List.take_length] at HIV
          have HIV2 := hid (show Inv (runP l piece new fr (k + 1)) wr by rw [HNX.out]; exact HIV.out)
          clear hsq
          gi_wp2
          go_roundw
          case rel => exact ⟨k + 1, by simp; omega, by omega, HIV2.out⟩
          case measure => simp [intOf]; omega
    · have hltI : ¬ fr + (k : Int) < fr + (n : Int) := by omega
      obtain rfl : k = n := by omega
      gi_wp2
      go_end0
      exact ⟨⟨_, rfl⟩, HV0.out⟩
end Go.Proofs.YtnhgichiedninaaGreatDoor

namespace Go.Proofs.YtnhgichiedninaaGreatDoor
set_option linter.unusedSimpArgs false
set_option linter.unusedVariables false

/-- Does the part hold the span? -/
def inP (s p : SpanV) : Bool := decide (p.file = s.file) && decide (p.frm ≤ s.frm) && decide (s.frm + s.cnt ≤ p.frm + p.cnt)
/-- What a span gets out of the parts' texts. -/
def txOf (parts : List SpanV) (texts : List ByteArray) (s : SpanV) : List UInt8 :=
  match parts.findIdx? (inP s) with
  | some k => match parts[k]?, texts[k]? with
    | some p, some t => (t.data.toList.drop (s.frm - p.frm).toNat).take s.cnt.toNat
    | _, _ => []
  | none => zerosL s.cnt.toNat
/-- The text of piece i, as far as the spans T have come. -/
def pcOf (parts : List SpanV) (texts : List ByteArray) (T : List (Int × SpanV)) (i : Int) : List UInt8 := (T.filter fun x => x.1 == i).flatMap fun x => txOf parts texts x.2
/-- Do the texts fit the parts? -/
def fitsP (parts : List SpanV) (texts : List ByteArray) : Prop := texts.length = parts.length ∧ ∀ (k : Nat) p t, parts[k]? = some p → texts[k]? = some t → (t.size : Int) = p.cnt
noncomputable instance (parts : List SpanV) (texts : List ByteArray) : Decidable (fitsP parts texts) := Classical.propDecidable _
theorem flatMap_same {α β : Type} {f g : α → List β} : ∀ (L : List α), (∀ x ∈ L, f x = g x) → L.flatMap f = L.flatMap g
  | [], _ => rfl
  | x :: L, h => by rw [List.flatMap_cons, List.flatMap_cons, h x (by simp), flatMap_same L (fun y hy => h y (by simp [hy]))]
theorem pc_app (parts : List SpanV) (texts : List ByteArray) (T U : List (Int × SpanV)) (i : Int) : pcOf parts texts (T ++ U) i = pcOf parts texts T i ++ pcOf parts texts U i := by
  unfold pcOf
  rw [List.filter_append, List.flatMap_append]
theorem pc_one (parts : List SpanV) (texts : List ByteArray) (i j : Int) (s : SpanV) : pcOf parts texts [(i, s)] j = if i = j then txOf parts texts s else [] := by
  unfold pcOf
  by_cases h : i = j
  · subst h; simp
  · rw [if_neg h]
    have : (i == j) = false := by rw [beq_eq_false_iff_ne]; exact h
    simp [this]
theorem pc_same (parts : List SpanV) (texts : List ByteArray) (i j : Int) : ∀ S : List SpanV, pcOf parts texts (S.map fun s => (i, s)) j = if i = j then S.flatMap (txOf parts texts) else []
  | [] => by simp [pcOf]
  | s :: S => by
    have e : (s :: S).map (fun s => (i, s)) = [(i, s)] ++ S.map (fun s => (i, s)) := rfl
    rw [e, pc_app, pc_one, pc_same parts texts i j S]
    by_cases h : i = j
    · rw [if_pos h, if_pos h, if_pos h]; rfl
    · rw [if_neg h, if_neg h, if_neg h]; rfl
theorem pc_out (parts : List SpanV) (texts : List ByteArray) (l : List FileV) (piece : Int) (new : Bool) (fr j : Int) : ∀ n : Nat, fr + n ≤ j → pcOf parts texts (runP l piece new fr n) j = []
  | 0, _ => by simp [runP, pcOf]
  | n + 1, h => by
    rw [runP_next, pc_app, pc_out parts texts l piece new fr j n (by omega), pc_same, if_neg (by omega)]
    rfl
theorem pc_run (parts : List SpanV) (texts : List ByteArray) (l : List FileV) (piece : Int) (new : Bool) (fr : Int) : ∀ (n k : Nat), k < n → pcOf parts texts (runP l piece new fr n) (fr + (k : Int)) = (spansOf l piece new (fr + (k : Int))).flatMap (txOf parts texts)
  | 0, _, h => by omega
  | n + 1, k, h => by
    rw [runP_next, pc_app, pc_same]
    by_cases e : k = n
    · subst e
      rw [pc_out _ _ _ _ _ _ _ _ (Int.le_refl _), if_pos rfl]
      rfl
    · rw [if_neg (by omega), pc_run parts texts l piece new fr n k (by omega), List.append_nil]
theorem inP_iff {s p : SpanV} : inP s p = true ↔ p.file = s.file ∧ p.frm ≤ s.frm ∧ s.frm + s.cnt ≤ p.frm + p.cnt := by
  unfold inP
  simp only [Bool.and_eq_true, decide_eq_true_eq, and_assoc]
theorem find_held {parts : List SpanV} {s : SpanV} (h : Held parts s) : ∃ k p, parts.findIdx? (inP s) = some k ∧ parts[k]? = some p ∧ inP s p = true := by
  obtain ⟨q, hq, h1, h2, h3⟩ := h
  have hs : (parts.findIdx? (inP s)).isSome = true := by
    rw [List.findIdx?_isSome, List.any_eq_true]
    exact ⟨q, hq, inP_iff.2 ⟨h1, h2, h3⟩⟩
  obtain ⟨k, hk⟩ := Option.isSome_iff_exists.1 hs
  obtain ⟨hlt, hp, -⟩ := List.findIdx?_eq_some_iff_getElem.1 hk
  exact ⟨k, parts[k], hk, List.getElem?_eq_getElem hlt, hp⟩
theorem find_at {parts : List SpanV} {s : SpanV} {k : Nat} (h : parts.findIdx? (inP s) = some k) : ∃ p, parts[k]? = some p ∧ inP s p = true := by
  obtain ⟨hlt, hp, -⟩ := List.findIdx?_eq_some_iff_getElem.1 h
  exact ⟨parts[k], List.getElem?_eq_getElem hlt, hp⟩
theorem zeros_len (n : Nat) : (zerosL n).length = n := by simp [zerosL]
/-- A span's text is as long as the span. -/
theorem tx_len {parts : List SpanV} {texts : List ByteArray} (hf : fitsP parts texts) {s : SpanV} (h0 : 0 ≤ s.cnt) : ((txOf parts texts s).length : Int) = s.cnt := by
  unfold txOf
  split
  · next k hk =>
    obtain ⟨p, hp, hi⟩ := find_at hk
    have hlt : k < parts.length := (List.getElem?_eq_some_iff.1 hp).1
    have ht : texts[k]? = some (texts[k]'(by rw [hf.1]; exact hlt)) := List.getElem?_eq_getElem _
    have hsz := hf.2 k p _ hp ht
    obtain ⟨-, i2, i3⟩ := inP_iff.1 hi
    rw [hp, ht]
    simp only [List.length_take, List.length_drop, Array.length_toList]
    have : (texts[k]'(by rw [hf.1]; exact hlt)).data.size = (texts[k]'(by rw [hf.1]; exact hlt)).size := rfl
    rw [this]
    omega
  · rw [zeros_len]; omega
theorem tx_sum {parts : List SpanV} {texts : List ByteArray} (hf : fitsP parts texts) : ∀ S : List SpanV, (∀ s ∈ S, 0 ≤ s.cnt) → ((S.flatMap (txOf parts texts)).length : Int) = cntOf S
  | [], _ => by simp [cntOf]
  | s :: S, h => by
    have h1 := tx_len hf (h s (by simp))
    have h2 := tx_sum hf S (fun x hx => h x (by simp [hx]))
    simp only [cntOf, List.flatMap_cons, List.length_append, List.map_cons, List.sum_cons] at *
    omega
/-- A piece's text, as far as it has come, is no longer than a piece. -/
theorem pc_small {parts : List SpanV} {texts : List ByteArray} (hf : fitsP parts texts) {l : List FileV} {piece : Int} {new : Bool} {fr : Int} {n : Nat} (hv : wayErr l piece = 0) (f0 : 0 ≤ fr) (f1 : fr + n ≤ piecesOf l piece new)
    {T rest : List (Int × SpanV)} (h : T ++ rest = runP l piece new fr n) {k : Nat} (hk : k < n) : (pcOf parts texts T (fr + (k : Int))).length ≤ 65536 := by
  have h1 := pc_run parts texts l piece new fr n k hk
  rw [← h, pc_app] at h1
  have h2 := congrArg List.length h1
  rw [List.length_append] at h2
  obtain ⟨r1, r2⟩ := res_bounds (l := l) (piece := piece) (new := new) (i := fr + (k : Int))
  have e : spansRes l piece new (fr + (k : Int)) = spansOf l piece new (fr + (k : Int)) := by
    unfold spansRes spansErr
    rw [if_pos (by rw [if_pos hv, if_neg (by omega)])]
  rw [e] at r1 r2
  have h3 := tx_sum hf _ r1
  omega
/-- The parts' texts as they lie in the files. -/
def cutT (data : List ByteArray) (s : SpanV) : ByteArray := match data[s.file.toNat]? with
  | some t => t.extract s.frm.toNat (s.frm.toNat + s.cnt.toNat)
  | none => ⟨#[]⟩
theorem cut_bytes (t : ByteArray) (a b c d : Nat) (h : a ≤ c) (h2 : c + d ≤ a + b) : ((t.extract a (a + b)).data.toList.drop (c - a)).take d = (t.data.toList.drop c).take d := by
  rw [ext_drop, List.drop_take, List.drop_drop, List.take_take, show a + (c - a) = c by omega, show min d (b - (c - a)) = d by omega]
theorem tx_bytes {l : List FileV} {data : List ByteArray} {parts : List SpanV} {s : SpanV} (hl : data.length = l.length) (hp : ∀ p ∈ parts, PartOf l p) (hs : InK l s) (hh : padS l s = false → Held parts s) : txOf parts (parts.map (cutT data)) s = bytesOf l data s := by
  obtain ⟨k, f, a1, a2, a3, a4, a5⟩ := hs
  have hkl : k < l.length := (List.getElem?_eq_some_iff.1 a2).1
  have hd : data[k]? = some (data[k]'(by omega)) := List.getElem?_eq_getElem (by omega)
  unfold bytesOf
  rw [a1, Int.toNat_natCast, a2, hd]
  simp only
  unfold padS at hh
  rw [a1, Int.toNat_natCast, a2] at hh
  simp only at hh
  cases hpad : f.pad with
  | true =>
    rw [if_pos rfl]
    have hn : parts.findIdx? (inP s) = none := by
      rw [List.findIdx?_eq_none_iff]
      intro p hm
      rw [Bool.eq_false_iff]
      intro hi
      obtain ⟨i1, -, -⟩ := inP_iff.1 hi
      obtain ⟨-, q⟩ := hp p hm
      unfold padS at q
      rw [i1, a1, Int.toNat_natCast, a2] at q
      simp only at q
      rw [hpad] at q
      cases q
    unfold txOf
    rw [hn]
  | false =>
    rw [if_neg (by simp)]
    obtain ⟨j, p, e1, e2, e3⟩ := find_held (hh hpad)
    obtain ⟨i1, i2, i3⟩ := inP_iff.1 e3
    obtain ⟨⟨k2, f2, b1, b2, b3, b4, b5⟩, -⟩ := hp p (List.mem_of_getElem? e2)
    unfold txOf
    rw [e1]
    simp only [e2, List.getElem?_map, Option.map_some]
    unfold cutT
    rw [i1, a1, Int.toNat_natCast, hd]
    simp only
    rw [show (s.frm - p.frm).toNat = s.frm.toNat - p.frm.toNat by omega]
    exact cut_bytes _ _ _ _ _ (by omega) (by omega)
/-- The texts that the files give fit the parts. -/
theorem cut_fits {l : List FileV} {data : List ByteArray} {parts : List SpanV} (hl : data.length = l.length) (hp : ∀ p ∈ parts, PartOf l p) (hd : fitsD l data = true) : fitsP parts (parts.map (cutT data)) := by
  refine ⟨by simp, fun k p t hk ht => ?_⟩
  rw [List.getElem?_map, hk] at ht
  simp only [Option.map_some, Option.some.injEq] at ht
  obtain ⟨⟨j, f, b1, b2, b3, b4, b5⟩, q⟩ := hp p (List.mem_of_getElem? hk)
  have hjl : j < l.length := (List.getElem?_eq_some_iff.1 b2).1
  have hdj : data[j]? = some (data[j]'(by omega)) := List.getElem?_eq_getElem (by omega)
  have hfit := fitsD_at hl hd b2 hdj
  unfold padS at q
  rw [b1, Int.toNat_natCast, b2] at q
  simp only at q
  unfold fitD at hfit
  rw [q] at hfit
  simp only [Bool.false_and, Bool.or_false, decide_eq_true_eq] at hfit
  subst ht
  unfold cutT
  rw [b1, Int.toNat_natCast, hdj]
  simp only
  rw [ext_size _ _ _ (by omega)]
  omega
/-- What the pieces of a run hold is what reading their spans gives. -/
theorem pieces_read {l : List FileV} {data : List ByteArray} {piece : Int} {new : Bool} {fr : Int} {n : Nat} (hv : wayErr l piece = 0) (f0 : 0 ≤ fr) (hl : data.length = l.length) {k : Nat} (hk : k < n) :
    pcOf (jnOf l (runSp l piece new fr n)) ((jnOf l (runSp l piece new fr n)).map (cutT data)) (runP l piece new fr n) (fr + (k : Int)) = readOf l data (spansOf l piece new (fr + (k : Int))) := by
  obtain ⟨hvv, hpp⟩ := way_ok hv
  obtain ⟨v1, v2, v3, v4⟩ := valid_facts hvv
  obtain ⟨p1, p2⟩ := piece_range hpp
  have hin := runs_within new (show 0 < piece by omega) v3 f0 n
  obtain ⟨h1, h2, -⟩ := jn_parts hin
  rw [pc_run _ _ _ _ _ _ _ _ hk]
  unfold readOf
  refine flatMap_same _ ?_
  intro s hs
  have hm : s ∈ runSp l piece new fr n := by
    unfold runSp
    exact List.mem_flatMap.2 ⟨k, List.mem_range.2 hk, hs⟩
  exact tx_bytes hl h1 (hin s hm) (h2 s hm)
end Go.Proofs.YtnhgichiedninaaGreatDoor
