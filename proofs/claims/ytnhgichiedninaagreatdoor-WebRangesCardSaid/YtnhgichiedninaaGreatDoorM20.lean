/-
  Several texts in one, in their build order. slices.AppendSeq and slices.Collect over an iterator of spans. Conditions: what 'Iter' says of the iterator.
-/
import Derived.Test.YtnhgichiedninaaGreatDoorM18
import Derived.Test.YtnhgichiedninaaGreatDoorM19
namespace Go.Proofs.YtnhgichiedninaaGreatDoor
set_option linter.unusedSimpArgs false
set_option linter.unusedVariables false
open Go.RowKit Go.Shelf
attribute [local go_sem] Oper.semAt_some

theorem name_world {p : World → Prop} {w : World} (h : ∀ W, W = w → p W) : p w := h w rfl
theorem ob_set {w : World} {k : Nat} {o : Obj} {p : Addr} {u : Value} (hp : k ≠ p.block) (h : w.heap[k]? = some o) : (w.setCell p u).heap[k]? = some o := (Below.heap_setCell w p u k hp).trans h
theorem ob_drew {w : World} {k : Nat} {o : Obj} (h : w.heap[k]? = some o) : w.drew.heap[k]? = some o := h
theorem ob_alloc {w : World} {k : Nat} {o o' : Obj} (h : w.heap[k]? = some o) : (w.alloc o').heap[k]? = some o := (Below.heap_alloc w o' k (Array.getElem?_eq_some_iff.1 h).1).trans h
theorem ob_put {w : World} {k r : Nat} {o o' : Obj} (hp : k ≠ r) (h : w.heap[k]? = some o) : (w.putObj r o').heap[k]? = some o := (World.putObj_heap_other hp).trans h

def spanCells (s : SpanV) : List Value := [.int .i64 s.file, .int .i64 s.frm, .int .i64 s.cnt]
def spanRow (S : List SpanV) : List Value := S.flatMap spanCells
/-- The slice v, of memory from block base on, holds the spans S. -/
def OwnS (w : World) (base : Nat) (v : Value) (S : List SpanV) : Prop := w.ownsRow base 113 3 v S.length (spanRow S)
theorem OwnS.nil (w : World) (base : Nat) : OwnS w base (.slice none 0 0) [] := World.ownsRow_nil _ _ _ _
theorem owns_mod {S : Nat → Prop} {W W' : World} {base : Nat} {e : TypeId} {size : Nat} {v : Value} {n : Nat} {xs : List Value} (h : W.ownsRow base e size v n xs) (hm : Mod S W W') (hs : ∀ k, base ≤ k → ¬ S k) : W'.ownsRow base e size v n xs := by
  refine ⟨h.1, ?_⟩
  rcases h.2 with h2 | ⟨g, cap, cur, hv, hbg, hg, rest⟩
  · exact .inl h2
  · exact .inr ⟨g, cap, cur, hv, hbg, (hm.block g (Array.getElem?_eq_some_iff.1 hg).1 (hs g hbg)).trans hg, rest⟩
/-- The block of an owned row holds cells of its type: it is no other block. -/
theorem owns_ne {W : World} {base : Nat} {e : TypeId} {size : Nat} {v : Value} {n : Nat} {xs : List Value} (h : W.ownsRow base e size v n xs) {j : Nat} {o : Obj} (hj : W.heap[j]? = some o) (hno : ∀ cur, o ≠ .cells cur e (0, 0)) : some j ≠ v.ownBlock := by
  rcases h.2 with ⟨rfl, -⟩ | ⟨g, cap, cur, rfl, -, hg, -⟩
  · simp [Value.ownBlock]
  · intro e'
    have : j = g := by simpa [Value.ownBlock] using e'
    subst this
    rw [hg] at hj
    cases hj
    exact hno cur rfl

theorem grown_put (W : World) (l : Nat) (o : Obj) : W.grownBy (W.putObj l o) (some l) :=
  ⟨rfl, rfl, rfl, by simp, fun k _ hk => World.putObj_heap_other (fun e => hk (by rw [e]))⟩
theorem grown_set (w : World) (a : Addr) (u : Value) : w.grownBy (w.setCell a u) (some a.block) :=
  ⟨rfl, rfl, rfl, by simp, fun k _ hk => Below.heap_setCell w a u k (fun e => hk (by rw [e]))⟩
/-- An iterator over the spans S: whatever the rounds do that keep 'Rd' and go on. It may turn the blocks of Ch. -/
def Iter (gf : Nat) (lb : Array Value) (S : List SpanV) (Ch : Nat → Prop) (Rd0 Rd : World → Prop) : Prop :=
  ∀ (lp m : Nat) (Inv : List SpanV → World → Prop), 1 ≤ m → (∀ T W, Inv T W → Rd W) → (∀ T W W', Inv T W → Mod Ch W W' → Inv T W') →
    (∀ T s W, Inv T W → T.length < 40 → YieldAt Fence.wide (m - 1) Tryz.prog lp #[spanV s] W fun e W' => e = .returned (.bool true) ∧ Inv (T ++ [s]) W' ∧ ∀ b cs, Blk W b cs 60 → Blk W' b cs 60) →
    ∀ W, Inv [] W → Rd0 W → CallsIn Fence.wide m Tryz.prog gf (#[.func (.yield lp) #[] #[]] ++ lb) W fun e W' => (∃ v, e = .returned v) ∧ Inv S W'

structure ApAt (w : World) (Ch : Nat → Prop) (Rd : World → Prop) (B L D : Nat) (lo : Obj) (T : List SpanV) (W : World) : Prop where
  box : ∃ v, Blk W B #[v] 65 ∧ OwnS W w.heap.size v T
  L : W.heap[L]? = some lo
  K : W.heap[D]? = some (.deferred (some []))
  new : Mod Ch w W
  rd : Rd W
theorem info_span : (Tryz.prog.info? 113).map (fun i => (i.zero, i.size, i.bytes)) = some (some (.agg #[.int .i64 0, .int .i64 0, .int .i64 0]), 3, 24) := by kernel_rfl
theorem ApAt.step {w : World} {Ch : Nat → Prop} {Rd : World → Prop} {B L D : Nat} {lo : Obj} {T : List SpanV} {W W' : World} (h : ApAt w Ch Rd B L D lo T W) (hch : ∀ k, Ch k → k < w.heap.size) (hB : w.heap.size ≤ B) (hL : w.heap.size ≤ L) (hD : w.heap.size ≤ D)
    (hr : ∀ W W', Mod (fun k => Ch k ∨ w.heap.size ≤ k) W W' → Rd W → Rd W') (hm : Mod Ch W W') : ApAt w Ch Rd B L D lo T W' := by
  have hn : ∀ k, w.heap.size ≤ k → ¬ Ch k := fun k hk hc => by have := hch k hc; omega
  obtain ⟨v, h1, h2⟩ := h.box
  exact ⟨⟨v, hm.blk h1 (hn B hB), owns_mod h2 hm hn⟩, (hm.block L (Array.getElem?_eq_some_iff.1 h.L).1 (hn L hL)).trans h.L, (hm.block D (Array.getElem?_eq_some_iff.1 h.K).1 (hn D hD)).trans h.K, h.new.trans hm, hr _ _ (hm.mono (fun _ _ q => .inl q)) h.rd⟩

set_option maxRecDepth 100000 in
set_option maxHeartbeats 4000000 in
theorem appendSeq_any (gf : Nat) (lb : Array Value) (S : List SpanV) (Ch : Nat → Prop) (Rd0 Rd : World → Prop) (w : World) (hit : Iter gf lb S Ch Rd0 Rd) (eg : ∀ args w, (callFunc gf args).run Tryz.prog w = .ok (.enter gf args) w)
    (hch : ∀ k, Ch k → k < w.heap.size) (h0 : ∀ W, Mod (fun k => w.heap.size ≤ k) w W → Rd0 W) (h1 : Rd w) (hr : ∀ W W', Mod (fun k => Ch k ∨ w.heap.size ≤ k) W W' → Rd W → Rd W') :
    Calls Tryz.prog 164 #[.slice none 0 0, .func (.func gf) #[] lb] w fun e w' => ∃ v, e = .returned v ∧ OwnS w' w.heap.size v S ∧ Mod Ch w w' := by
  have HIT := hid hit; have HCH := hid hch; have H0 := hid h0; have H1 := hid h1; have HR := hid hr; have EG := hid eg
  clear hit hch h0 h1 hr eg
  refine (callsIn_wide (n := 9)).1 ?_
  refine callsIn_of_wp_marks Tryz.func164 rfl trivial ?_ rfl
  simp only [Tryz.ntmps164, List.size_toArray, List.length_cons, List.length_nil, Nat.reduceAdd, Nat.reduceSub, Array.replicate_succ, Array.replicate_zero, List.push_toArray, List.append_toArray, List.nil_append, List.cons_append]
  gi_wp2_with fail
  refine name_world (p := fun W => Code.wpIn _ _ _ _ _ _ W) (fun W0 hW0 => ?_)
  have hs0 : W0.heap.size = w.heap.size + 1 := by rw [hW0]; simp
  have hn0 : New w W0 := by rw [hW0]; exact (Mod.refl _ _).alloc _
  have hb0 : Blk W0 w.heap.size #[.slice none 0 0] 65 := by rw [hW0]; exact Blk.new _ _ _
  clear hW0
  refine wpIn_range rfl (by omega) (gf := gf) (lb := lb) rfl trivial EG.out ?_
  intro fn _ rec hrec
  obtain ⟨i0, hi, hz0, hz1, hz2⟩ := info_parts info_span
  have hstart2 : New w ((W0.alloc (.deferred (some []))).alloc (.loop (rec .ready none))) := Mod.alloc (Mod.alloc hn0 _) _
  have hstart : Mod (fun k => w.heap.size ≤ k) w ((W0.alloc (.deferred (some []))).alloc (.loop (rec .ready none))) := hstart2.mod
  have hl0 : ((W0.alloc (.deferred (some []))).alloc (.loop (rec .ready none))).heap[W0.heap.size + 1]? = some (.loop (rec .ready none)) := by
    have := World.alloc_heap_new (w := W0.alloc (.deferred (some []))) (o := .loop (rec .ready none))
    rwa [World.size_alloc] at this
  have hd0 : ((W0.alloc (.deferred (some []))).alloc (.loop (rec .ready none))).heap[W0.heap.size]? = some (.deferred (some [])) := (Below.heap_alloc _ _ _ (by simp)).trans (World.alloc_heap_new W0 _)
  have hbx : Blk ((W0.alloc (.deferred (some []))).alloc (.loop (rec .ready none))) w.heap.size #[.slice none 0 0] 65 := (hb0.alloc _).alloc _
  rw [hs0] at hrec hl0 hd0 ⊢
  generalize (W0.alloc (.deferred (some []))).alloc (.loop (rec .ready none)) = W1 at *
  clear hs0 hn0 hb0 W0
  refine (HIT.out (w.heap.size + 1 + 1) 8 (ApAt w Ch Rd w.heap.size (w.heap.size + 1 + 1) (w.heap.size + 1) (.loop (rec .ready none))) (by omega) (fun T W h => h.rd) (fun T W W' h hm => h.step HCH.out (by omega) (by omega) (by omega) HR.out hm) ?hY _ ⟨⟨_, hbx, OwnS.nil _ _⟩, hl0, hd0, hstart2.mod, HR.out _ _ (hstart.mono (fun _ _ q => .inr q)) H1.out⟩ (H0.out _ hstart)).mono ?fin
  case fin =>
    rintro e W ⟨hv, hA⟩
    obtain ⟨⟨v, hb, ho⟩, hL, hD, hnw, -⟩ := hA
    refine ⟨hv, hD, .inl ⟨hL, ?_⟩⟩
    have hne : v.ownBlock ≠ some (w.heap.size + 1 + 1) := fun q => owns_ne ho hL (by intro cur q; cases q) q.symm
    have hne2 : v.ownBlock ≠ some (w.heap.size + 1) := fun q => owns_ne ho hD (by intro cur q; cases q) q.symm
    refine name_world (p := fun W => Exit.inBlock _ _ _ _ W) (fun W5 hW5 => ?_)
    have hb2 : Blk W5 w.heap.size #[v] 65 := by rw [hW5]; exact Blk.putObj (by omega) hb
    have ho2 : OwnS W5 w.heap.size v S := by
      rw [hW5]
      exact World.ownsRow.kept ho (grown_put W _ _) (.inr hne)
    have hD2 : W5.heap[w.heap.size + 1]? = some (.deferred (some [])) := by rw [hW5]; exact ob_put (by omega) hD
    have hn2 : Mod Ch w W5 := by rw [hW5]; exact Mod.putObj hnw _ _ (.inr (by omega))
    have hc2 := hb2.cellv (v := v) 0 rfl
    have HO := hid ho2; have HD := hid hD2; have HN := hid hn2; have HNE := hid hne2
    clear hb ho hL hD hnw hb2 ho2 hD2 hn2 hne hne2 hW5 hv hrec hstart hstart2 hl0 hd0 hbx
    gi_wp2
    refine ⟨by simp, .inl ⟨_, _, rfl, run_takeDeferred HD.out, ?_⟩⟩
    refine ⟨v, by simp [results, Tryz.results164, go_sem], ⟨v, rfl, ?_, ?_⟩⟩
    · exact World.ownsRow.kept HO.out (grown_put W5 _ _) (.inr HNE.out)
    · exact Mod.putObj HN.out _ _ (.inr (by omega))
  case hY =>
    intro T s W hA hT
    obtain ⟨⟨v, hb, ho⟩, hL, hD, hnw, hrd⟩ := hA
    refine yieldAt_round hrec hL rfl trivial ?_
    have HBX := hid hb; have HO := hid ho; have HL := hid hL; have HD := hid hD; have HN := hid hnw; have HRD := hid hrd
    have hsz := hnw.size
    have hLW : w.heap.size + 1 + 1 < W.heap.size := (Array.getElem?_eq_some_iff.1 hL).1
    clear hb ho hL hD hnw hrd hrec hstart hstart2 hl0 hd0 hbx
    gi_wp2
    refine ⟨ob_alloc HL.out, ?_⟩
    refine name_world (p := fun W => Code.wpIn _ _ _ _ _ _ W) (fun W3 hW3 => ?_)
    have hn3 : Mod (fun k => k = w.heap.size + 1 + 1) W W3 := by rw [hW3]; exact Mod.putObj ((Mod.refl _ _).alloc _) _ _ (.inl rfl)
    have hs3 : W3.heap.size = W.heap.size + 1 := by rw [hW3]; simp
    have hb3 : Blk W3 w.heap.size #[v] 65 := hn3.blk HBX.out (by omega)
    have hx3 : Blk W3 W.heap.size #[.int .i64 s.file, .int .i64 s.frm, .int .i64 s.cnt] 113 := by rw [hW3]; exact Blk.putObj (by omega) (Blk.new _ _ _)
    have hl3 : W3.heap[w.heap.size + 1 + 1]? = some (.loop (rec .busy none)) := by rw [hW3]; exact World.putObj_heap_same (by simp; omega)
    have hne : v.ownBlock ≠ some (w.heap.size + 1 + 1) := fun q => owns_ne HO.out HL.out (by intro cur q; cases q) q.symm
    have ho3 : OwnS W3 w.heap.size v T := by
      rw [hW3]
      exact World.ownsRow.kept (World.ownsRow.kept HO.out (grown_of_new ((Mod.refl _ _).alloc _) (some (w.heap.size + 1 + 1))) (.inr hne)) (grown_put _ _ _) (.inr hne)
    obtain ⟨e0, e1, e2⟩ := hb3.one
    have x0 := hx3.cellv (v := .int .i64 s.file) 0 rfl
    have x1 := hx3.cellv (v := .int .i64 s.frm) 1 rfl
    have x2 := hx3.cellv (v := .int .i64 s.cnt) 2 rfl
    have hd3 : W3.heap[w.heap.size + 1]? = some (.deferred (some [])) := by rw [hW3]; exact ob_put (by omega) (ob_alloc HD.out)
    have HD3 := hid hd3; clear hd3
    have HN3 := hid hn3; have HB3 := hid hb3; have HL3 := hid hl3; have HO3 := hid ho3; have HS3 := hid hs3
    clear hW3 hn3 hb3 hx3 hl3 hne ho3
    gi_wp2_with (gi_at_builtin; refine wpListIn_append_own _ rfl _ _ 65 rfl w.heap.size 113 i0 _ 3 24 Tryz.underlying65 hi hz0 hz1 hz2 rfl (by decide) v T.length (spanRow T) rfl ?ow ⟨W.heap.size + 1, 0, none⟩ 1 1 (spanCells s) rfl rfl ?hn ?h1 ?h63 ?hby ?hba ?_)
    case ow => exact owns_mod HO3.out ((Mod.refl (fun _ => False) _).alloc _) (fun _ _ q => q)
    case hn =>
      have := three_new W3 (.int .i64 s.file) (.int .i64 s.frm) (.int .i64 s.cnt) 113
      rw [HS3.out] at this
      simpa [spanCells] using this
    case h1 => intro u hu; simp [spanCells] at hu; rcases hu with rfl | rfl | rfl <;> rfl
    case h63 => unfold maxLen; omega
    case hby => omega
    case hba => simp; omega
    intro v' w' hr2 hg2 hne2
    have hnb : some w.heap.size ≠ v.ownBlock := owns_ne HO3.out HB3.out (by intro cur q; cases q)
    have hnl : some (w.heap.size + 1 + 1) ≠ v.ownBlock := owns_ne HO3.out HL3.out (by intro cur q; cases q)
    have hB2 : Blk w' w.heap.size #[v] 65 := (HB3.out.alloc _).of_heap (hg2.block _ (by have := HB3.out.lt; simp; omega) hnb)
    have hL2 : w'.heap[w.heap.size + 1 + 1]? = some (.loop (rec .busy none)) := (hg2.block _ (by simp; omega) hnl).trans (ob_alloc HL3.out)
    obtain ⟨z0, z1, z2⟩ := hB2.one
    have hs' : W.heap.size + 1 + 1 ≤ w'.heap.size := by have := hg2.size; simp at this; omega
    rcases hr2.2 with ⟨-, hbad⟩ | ⟨g, cap, cur, rfl, hg0, hg1, -⟩
    · omega
    have hgb : g ≠ w.heap.size := fun q => by subst q; rw [hB2] at hg1; cases hg1
    have hgl : g ≠ w.heap.size + 1 + 1 := fun q => by subst q; rw [hL2] at hg1; cases hg1
    have hnd : some (w.heap.size + 1) ≠ v.ownBlock := owns_ne HO3.out HD3.out (by intro cur q; cases q)
    have hD2 : w'.heap[w.heap.size + 1]? = some (.deferred (some [])) := (hg2.block _ (by simp; omega) hnd).trans (ob_alloc HD3.out)
    have hown : ∀ k, some k = v.ownBlock → w.heap.size ≤ k := by
      intro k hk
      rcases HO3.out.2 with ⟨rfl, -⟩ | ⟨g, cap, cur, rfl, hq, -⟩
      · simp [Value.ownBlock] at hk
      · simp [Value.ownBlock] at hk
        omega
    have hm2 : Mod (fun k => w.heap.size ≤ k) W w' := by
      have m1 : Mod (fun k => w.heap.size ≤ k) W3 w' := Mod.trans' (Mod.alloc (Mod.refl _ _) _) (Mod.of_grown hg2) (fun i _ q => hown i q)
      exact Mod.trans (HN3.out.mono (fun i _ q => by omega)) m1
    have hkeep : ∀ (b : Nat) (cs : Array Value), Blk W b cs 60 → Blk w' b cs 60 := by
      intro b cs hq
      have h1 : b ≠ w.heap.size + 1 + 1 := fun q => by subst q; have := HL.out.symm.trans hq; cases this
      have h2 : Blk W3 b cs 60 := HN3.out.blk hq h1
      exact (h2.alloc _).of_heap (hg2.block _ (by have := h2.lt; simp; omega) (owns_ne HO3.out h2 (by intro cur q; cases q)))
    have HB2 := hid hB2; have HR2 := hid hr2; have HL2 := hid hL2; have HGB := hid hgb; have HGL := hid hgl; have HM2 := hid hm2; have HKP := hid hkeep; have HD2 := hid hD2
    clear hB2 hr2 hg2 hne2 hg1 hnb hnl hL2 hgb hgl hnd hown hm2 hkeep hD2
    gi_wp2
    refine ⟨ob_set (by simp; omega) HL2.out, rfl, ?_, ?_⟩
    · refine ⟨⟨.slice (some ⟨g, 0, none⟩) (T.length + 1) cap, ?_, ?_⟩, ?_, ?_, ?_, ?_⟩
      · exact Blk.putObj (by omega) (HB2.out.set 0 _)
      · have h1 : OwnS (w'.setCell ⟨w.heap.size, 0, none⟩ (.slice (some ⟨g, 0, none⟩) (T.length + 1) cap)) w.heap.size (.slice (some ⟨g, 0, none⟩) (T.length + 1) cap) (T ++ [s]) := by
          have h2 := World.ownsRow.kept HR2.out (grown_set w' ⟨w.heap.size, 0, none⟩ (.slice (some ⟨g, 0, none⟩) (T.length + 1) cap)) (.inr (fun q => HGB.out (by simpa [Value.ownBlock] using q)))
          unfold OwnS
          simpa [spanRow] using h2
        exact World.ownsRow.kept h1 (grown_put _ _ _) (.inr (fun q => HGL.out (by simpa [Value.ownBlock] using q)))
      · exact World.putObj_heap_same (by simp; omega)
      · exact ob_put (by omega) (ob_set (by simp) HD2.out)
      · exact HN.out.trans' (Mod.putObj (Mod.set HM2.out _ _ (.inl (Nat.le_refl _))) _ _ (.inl (by omega))) (fun i hi q => absurd q (by omega))
      · exact HR.out _ _ (Mod.putObj (Mod.set (HM2.out.mono (fun _ _ q => .inr q)) _ _ (.inl (.inr (Nat.le_refl _)))) _ _ (.inl (.inr (by omega)))) HRD.out
    · intro b cs hq
      have := HKP.out b cs hq
      refine Blk.putObj ?_ (Blk.other ?_ this)
      · intro q; subst q; have := HL2.out.symm.trans this; cases this
      · intro q; simp at q; subst q; have := HB2.out.symm.trans this; cases this
end Go.Proofs.YtnhgichiedninaaGreatDoor
