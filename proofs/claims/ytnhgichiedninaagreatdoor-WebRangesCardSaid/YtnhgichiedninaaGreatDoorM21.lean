/-
  Several texts in one, in their build order. The iterators over a piece's spans as they are made, slices.Collect of them, Spans and Size of package files. Conditions: as they stand.
-/
import Derived.Test.YtnhgichiedninaaGreatDoorM20
namespace Go.Proofs.YtnhgichiedninaaGreatDoor
set_option linter.unusedSimpArgs false
set_option linter.unusedVariables false
open Go.RowKit Go.Shelf

def rowLb (B : Nat) : Array Value := #[.pointer (some ⟨B + 1, 0, none⟩), .pointer (some ⟨B, 0, none⟩)]
def apLb (B : Nat) : Array Value := #[.pointer (some ⟨B, 0, none⟩), .pointer (some ⟨B + 1, 0, none⟩)]
set_option maxHeartbeats 1000000 in
theorem row_spans (n c : Nat) (a : Option Addr) (piece i : Int) (w : World) :
    Calls Tryz.prog 221 #[.agg #[.slice a n c, .int .i64 piece], .int .i64 i] w fun e w' => e = .returned (.func (.func 223) #[] (rowLb w.heap.size)) ∧ New w w' ∧ w'.heap.size = w.heap.size + 2 ∧ Blk w' w.heap.size #[.slice a n c, .int .i64 piece] 221 ∧ Blk w' (w.heap.size + 1) #[.int .i64 i] 3 := by
  go_enter Tryz.func221, Tryz.ntmps221
  go_wp2
  go_ret
  exact ⟨rfl, ((Mod.refl _ _).alloc _).alloc _, by simp, (Blk.new _ _ _).alloc _, Blk.newAt (by simp)⟩
set_option maxHeartbeats 1000000 in
theorem ap_spans (n c : Nat) (a : Option Addr) (piece i : Int) (w : World) :
    Calls Tryz.prog 215 #[.agg #[.slice a n c, .int .i64 piece], .int .i64 i] w fun e w' => e = .returned (.func (.func 217) #[] (apLb w.heap.size)) ∧ New w w' ∧ w'.heap.size = w.heap.size + 2 ∧ Blk w' w.heap.size #[.slice a n c, .int .i64 piece] 220 ∧ Blk w' (w.heap.size + 1) #[.int .i64 i] 3 := by
  go_enter Tryz.func215, Tryz.ntmps215
  go_wp2
  go_ret
  exact ⟨rfl, ((Mod.refl _ _).alloc _).alloc _, by simp, (Blk.new _ _ _).alloc _, Blk.newAt (by simp)⟩

theorem OwnS.base {w : World} {base base' : Nat} {v : Value} {S : List SpanV} (h : OwnS w base v S) (hb : base' ≤ base) : OwnS w base' v S := by
  refine ⟨h.1, ?_⟩
  rcases h.2 with h1 | ⟨g, cap, cur, e, hbg, rest⟩
  · exact .inl h1
  · exact .inr ⟨g, cap, cur, e, Nat.le_trans hb hbg, rest⟩
structure RowRd (w0 : World) (B : Nat) (t : TypeId) (a : Option Addr) (n c : Nat) (piece : Int) (W : World) : Prop where
  new : New w0 W
  way : Blk W B #[.slice a n c, .int .i64 piece] t
theorem New.far {S : Nat → Prop} {w0 W W' : World} (h : New w0 W) (hm : Mod S W W') (hs : ∀ k, k < w0.heap.size → ¬ S k) : New w0 W' := h.trans' hm (fun i hi q => hs i hi q)
theorem row_is (w0 : World) (a : Option Addr) (c : Nat) (l : List FileV) (piece i : Int) (B : Nat) (h : FilesAt w0 a c l) (hl : l.length ≤ 40) (hf : ∀ f ∈ l, 0 ≤ f.len) (hs : sumOf l ≤ 65536) (p0 : 16 ≤ piece) (p1 : piece ≤ 1024) (i0 : 0 ≤ i) (i1 : i ≤ 70000) :
    Iter 223 (rowLb B) (rowGo (i * piece) ((i + 1) * piece) 0 0 l) (fun _ => False) (fun _ => True) (fun W => RowRd w0 B 221 a l.length c piece W ∧ Blk W (B + 1) #[.int .i64 i] 3) := by
  intro lp m Inv hm hI hN hY W h0 _
  exact row_iter a c l piece i (B + 1) B lp m hm Inv (fun T W hT => ⟨(hI T W hT).2, (hI T W hT).1.way, h.new (hI T W hT).1.new⟩) hN hY W h0 hl hf hs p0 p1 i0 i1
theorem ap_is (w0 : World) (a : Option Addr) (c : Nat) (l : List FileV) (piece i : Int) (B : Nat) (h : FilesAt w0 a c l) (hl : l.length ≤ 40) (hf : ∀ f ∈ l, 0 ≤ f.len ∧ f.len ≤ 65536) (p0 : 16 ≤ piece) (p1 : piece ≤ 1024) (i0 : 0 ≤ i) (i1 : i ≤ 70000) :
    Iter 217 (apLb B) (apGo piece i 0 l) (fun k => k = B + 1) (fun W => Blk W (B + 1) #[.int .i64 i] 3) (fun W => RowRd w0 B 220 a l.length c piece W) := by
  intro lp m Inv hm hI hN hY W h0 hb
  exact ap_iter a c l piece i (B + 1) B lp m hm (by omega) Inv (fun T W hT => ⟨(hI T W hT).way, h.new (hI T W hT).new⟩) hN hY W h0 hb hl hf p0 p1 i0 i1

set_option maxRecDepth 100000 in
set_option maxHeartbeats 1000000 in
theorem collect_any (gf : Nat) (lb : Array Value) (S : List SpanV) (Ch : Nat → Prop) (Rd0 Rd : World → Prop) (w : World) (hit : Iter gf lb S Ch Rd0 Rd) (eg : ∀ args w, (callFunc gf args).run Tryz.prog w = .ok (.enter gf args) w)
    (hch : ∀ k, Ch k → k < w.heap.size) (h0 : ∀ W, Mod (fun k => w.heap.size ≤ k) w W → Rd0 W) (h1 : Rd w) (hr : ∀ W W', Mod (fun k => Ch k ∨ w.heap.size ≤ k) W W' → Rd W → Rd W') :
    Calls Tryz.prog 141 #[.func (.func gf) #[] lb] w fun e w' => ∃ v, e = .returned v ∧ OwnS w' w.heap.size v S ∧ Mod Ch w w' := by
  have HA := hid (appendSeq_any gf lb S Ch Rd0 Rd w hit eg hch h0 h1 hr)
  clear hit eg hch h0 h1 hr
  go_enter Tryz.func141, Tryz.ntmps141
  go_wp2_with (go_at_call 164; refine HA.out.mono ?_; rintro e w1 ⟨v, rfl, o1, n1⟩; have O1 := hid o1; have N1 := hid n1; clear o1 n1)
  go_ret
  exact ⟨v, rfl, O1.out, N1.out⟩

theorem row_collect (w0 : World) (a : Option Addr) (c : Nat) (l : List FileV) (piece i : Int) (B : Nat) (w : World) (h : FilesAt w0 a c l) (hl : l.length ≤ 40) (hf : ∀ f ∈ l, 0 ≤ f.len) (hs : sumOf l ≤ 65536) (p0 : 16 ≤ piece) (p1 : piece ≤ 1024) (i0 : 0 ≤ i) (i1 : i ≤ 70000)
    (hn : New w0 w) (b0 : Blk w B #[.slice a l.length c, .int .i64 piece] 221) (b1 : Blk w (B + 1) #[.int .i64 i] 3) (hB : w0.heap.size ≤ B) :
    Calls Tryz.prog 141 #[.func (.func 223) #[] (rowLb B)] w fun e w' => ∃ v, e = .returned v ∧ OwnS w' w.heap.size v (rowGo (i * piece) ((i + 1) * piece) 0 0 l) ∧ New w w' := by
  have hb1 := b1.lt
  have hsz := hn.size
  refine collect_any _ _ _ _ _ _ w (row_is w0 a c l piece i B h hl hf hs p0 p1 i0 i1) (enters_of Tryz.func223 (by kernel_rfl) rfl) (fun _ q => q.elim) (fun _ _ => trivial) ⟨⟨hn, b0⟩, b1⟩ (fun W W' hm hR => ⟨⟨hR.1.new.far hm (fun k hk q => by simp at q; omega), hm.blk hR.1.way (fun q => by simp at q; omega)⟩, hm.blk hR.2 (fun q => by simp at q; omega)⟩)
theorem ap_collect (w0 : World) (a : Option Addr) (c : Nat) (l : List FileV) (piece i : Int) (B : Nat) (w : World) (h : FilesAt w0 a c l) (hl : l.length ≤ 40) (hf : ∀ f ∈ l, 0 ≤ f.len ∧ f.len ≤ 65536) (p0 : 16 ≤ piece) (p1 : piece ≤ 1024) (i0 : 0 ≤ i) (i1 : i ≤ 70000)
    (hn : New w0 w) (b0 : Blk w B #[.slice a l.length c, .int .i64 piece] 220) (b1 : Blk w (B + 1) #[.int .i64 i] 3) (hB : w0.heap.size ≤ B) :
    Calls Tryz.prog 141 #[.func (.func 217) #[] (apLb B)] w fun e w' => ∃ v, e = .returned v ∧ OwnS w' w.heap.size v (apGo piece i 0 l) ∧ Mod (fun k => k = B + 1) w w' := by
  have hb1 := b1.lt
  have hsz := hn.size
  refine collect_any _ _ _ _ _ _ w (ap_is w0 a c l piece i B h hl hf p0 p1 i0 i1) (enters_of Tryz.func217 (by kernel_rfl) rfl) (fun k q => by omega) (fun W hm => hm.blk b1 (by omega)) ⟨hn, b0⟩ (fun W W' hm hR => ⟨hR.new.far hm (fun k hk q => by omega), hm.blk hR.way (fun q => by omega)⟩)

theorem count_len {f : FileV} {piece : Int} (h : 0 ≤ f.len) (hp : 0 < piece) : 0 ≤ countOf f piece ∧ countOf f piece ≤ f.len := by
  unfold countOf hasN
  by_cases h0 : 0 < f.len
  · split
    · refine ⟨Int.ediv_nonneg (by omega) (by omega), ?_⟩
      rw [← Int.lt_add_one_iff]
      refine Int.ediv_lt_of_lt_mul hp ?_
      have : f.len * 1 ≤ f.len * piece := Int.mul_le_mul_of_nonneg_left (by omega) h
      rw [Int.add_mul]
      omega
    · omega
  · rw [if_neg (by simp; omega)]
    omega
theorem counts_le {l : List FileV} {piece : Int} (hp : 0 < piece) : (∀ f ∈ l, 0 ≤ f.len) → 0 ≤ countsOf l piece ∧ countsOf l piece ≤ sumOf l := by
  induction l with
  | nil => intro _; simp [countsOf, sumOf]
  | cons f r ih =>
    intro h
    have h1 := ih (fun g hg => h g (.tail _ hg))
    have h2 := count_len (h f (.head _)) hp
    simp only [countsOf, sumOf, List.map_cons, List.sum_cons] at *
    omega
theorem pieces_le {l : List FileV} {piece : Int} {new : Bool} (h : wayErr l piece = 0) : 0 ≤ piecesOf l piece new ∧ piecesOf l piece new ≤ 70000 := by
  obtain ⟨hv, hp⟩ := way_ok h
  obtain ⟨v1, v2, v3, v4⟩ := valid_facts hv
  obtain ⟨p1, p2⟩ := piece_range hp
  have := counts_le (piece := piece) (by omega) v3
  have h2 := (sum_mono l v3 0)
  cases new with
  | true =>
    show 0 ≤ countsOf l piece ∧ _ ≤ _
    have e : piecesOf l piece true = countsOf l piece := rfl
    omega
  | false =>
    have e : piecesOf l piece false = (sumOf l + piece - 1) / piece := rfl
    have := Int.ediv_nonneg (show 0 ≤ sumOf l + piece - 1 by omega) (show 0 ≤ piece by omega)
    have := Int.ediv_le_self piece (show 0 ≤ sumOf l + piece - 1 by omega)
    omega
theorem method_apart_spans (v : Value) (w : World) : (method 380 220 v "covey/files.spans").run Tryz.prog w = .ok (215, v) w := by kernel_rfl
theorem method_row_spans (v : Value) (w : World) : (method 380 221 v "covey/files.spans").run Tryz.prog w = .ok (221, v) w := by kernel_rfl

set_option maxRecDepth 100000 in
set_option maxHeartbeats 2000000 in
theorem Spans_ok (a : Option Addr) (c : Nat) (l : List FileV) (piece i : Int) (new : Bool) (w : World) (h : FilesAt w a c l) (ht : Tab w) (h0 : -9223372036854775808 ≤ piece) (h1 : piece ≤ 9223372036854775807) (hb : wayErr l piece = 0) (i0 : 0 ≤ i) (i1 : i < piecesOf l piece new) :
    Calls Tryz.prog 96 #[.slice a l.length c, .int .i64 piece, .bool new, .int .i64 i] w fun e w' => ∃ v, e = .returned (.tuple #[v, .int .i64 0]) ∧ OwnS w' w.heap.size v (spansOf l piece new i) ∧ New w w' := by
  obtain ⟨hv, hp⟩ := way_ok hb
  obtain ⟨v1, v2, v3, v4⟩ := valid_facts hv
  obtain ⟨p1, p2⟩ := piece_range hp
  have v5 := each_len v3
  have v6 := (sum_mono l v3 0)
  have HWY := hid (ways_ok a c l piece new w h ht h0 h1 hb)
  have hm1 := method_apart
  have hm2 := method_row
  have hm3 := method_apart_spans
  have hm4 := method_row_spans
  cases new with
  | true =>
    have hpc : piecesOf l piece true = countsOf l piece := rfl
    rw [hpc] at i1
    have HAP := hid (fun w' (n : New w w') => apart_pieces a c l piece w' (h.new n) v2 (fun f hf => ⟨v3 f hf, by have := v5 f hf; omega⟩) p1 p2)
    have hcb : countsOf l piece ≤ 70000 := (pieces_le (new := true) hb).2
    have HCL := hid (fun w0 (n : New w w0) w' => ap_collect w0 a c l piece i w0.heap.size w' (h.new n) v2 (fun f hf => ⟨v3 f hf, by have := v5 f hf; omega⟩) p1 p2 i0 (by omega))
    clear h ht hv hp hb v1 v2 v3 v4 v5 v6 hpc
    go_enter Tryz.func96, Tryz.ntmps96
    go_wp2_with (first | (go_at_call 128; refine HWY.out.mono ?_; simp only [wayV, if_true]; rintro e w1 ⟨rfl, h1⟩; have H1 := hid h1; clear h1) | (go_at_call 214; refine (HAP.out _ H1.out).mono ?_; rintro e w2 ⟨rfl, h2⟩; have H2 := hid (H1.out.trans h2); clear h2) | (go_at_call 215; refine (ap_spans _ _ _ _ _ _).mono ?_; rintro e w3 ⟨rfl, h3, s3, b3, d3⟩; have H3 := hid h3; have S3 := hid s3; have B3 := hid b3; have D3 := hid d3; clear h3 s3 b3 d3) | (go_at_call 141; refine (HCL.out _ H2.out _ H3.out B3.out D3.out (Nat.le_refl _)).mono ?_; rintro e w4 ⟨v, rfl, o4, n4⟩; have O4 := hid o4; have N4 := hid n4; clear o4 n4))
    go_ret2
    have := H2.out.size
    have := S3.out
    exact ⟨v, rfl, O4.out.base (by omega), H2.out.trans (H3.out.trans' N4.out (fun k hk q => by omega))⟩
  | false =>
    have hpc : piecesOf l piece false = (sumOf l + piece - 1) / piece := rfl
    have hcb : piecesOf l piece false ≤ 70000 := (pieces_le (new := false) hb).2
    obtain ⟨pn, hpn⟩ : ∃ pn, pn = (sumOf l + piece - 1) / piece := ⟨_, rfl⟩
    rw [hpc, ← hpn] at i1 hcb
    have HRP := hid (fun w' (n : New w w') => hpn ▸ row_pieces a c l piece w' (h.new n) v3 (by omega) v4 p1 p2)
    have HCL := hid (fun w0 (n : New w w0) w' => row_collect w0 a c l piece i w0.heap.size w' (h.new n) v2 v3 v4 p1 p2 i0 (by omega))
    clear h ht hv hp hb v1 v2 v3 v4 v5 v6 hpc hpn
    go_enter Tryz.func96, Tryz.ntmps96
    go_wp2_with (first | (go_at_call 128; refine HWY.out.mono ?_; simp only [wayV]; rintro e w1 ⟨rfl, h1⟩; have H1 := hid h1; clear h1) | (go_at_call 220; refine (HRP.out _ H1.out).mono ?_; rintro e w2 ⟨rfl, h2⟩; have H2 := hid (H1.out.trans h2); clear h2) | (go_at_call 221; refine (row_spans _ _ _ _ _ _).mono ?_; rintro e w3 ⟨rfl, h3, s3, b3, d3⟩; have H3 := hid h3; have S3 := hid s3; have B3 := hid b3; have D3 := hid d3; clear h3 s3 b3 d3) | (go_at_call 141; refine (HCL.out _ H2.out _ H3.out B3.out D3.out (Nat.le_refl _)).mono ?_; rintro e w4 ⟨v, rfl, o4, n4⟩; have O4 := hid o4; have N4 := hid n4; clear o4 n4))
    go_ret2
    have := H2.out.size
    have := S3.out
    exact ⟨v, rfl, O4.out.base (by omega), H2.out.trans (H3.out.trans N4.out)⟩
end Go.Proofs.YtnhgichiedninaaGreatDoor
