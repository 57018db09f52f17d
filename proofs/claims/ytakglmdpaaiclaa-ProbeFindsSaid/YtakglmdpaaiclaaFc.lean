/-
  The walk of package probe's Find: the search itself. Conditions: the chance is a slice of bools that lies in memory.
-/
import Derived.Test.YtakglmdpaaiclaaFb
namespace Go.Proofs.Ytakglmdpaaiclaa
set_option linter.unusedSimpArgs false
set_option linter.unusedVariables false
open Go.RowKit Go.Shelf
attribute [local go_sem] Oper.semAt_some

theorem name_world {p : World → Prop} {w : World} (h : ∀ W, W = w → p W) : p w := h w rfl

theorem ob_set {w : World} {k : Nat} {o : Obj} {p : Addr} {u : Value} (hp : k ≠ p.block) (h : w.heap[k]? = some o) : (w.setCell p u).heap[k]? = some o := (Below.heap_setCell w p u k hp).trans h
theorem ob_drew {w : World} {k : Nat} {o : Obj} (h : w.heap[k]? = some o) : w.drew.heap[k]? = some o := h
theorem ob_alloc {w : World} {k : Nat} {o o' : Obj} (h : w.heap[k]? = some o) : (w.alloc o').heap[k]? = some o := (Below.heap_alloc w o' k (Array.getElem?_eq_some_iff.1 h).1).trans h
theorem ob_put {w : World} {k r : Nat} {o o' : Obj} (hp : k ≠ r) (h : w.heap[k]? = some o) : (w.putObj r o').heap[k]? = some o := (World.putObj_heap_other hp).trans h
/-- What lies about the loop of Find. -/
structure FEnv (w : World) (bound : Int) (cv : Value) (n0 b bs L D : Nat) (W : World) : Prop where
  e0 : Blk W n0 #[.int .i64 bound] 3
  e1 : Blk W (n0 + 1) #[cv] 22
  es : Blk W bs #[.pointer (some ⟨b, 0, none⟩)] 31
  hd : W.heap[D]? = some (.deferred (some []))
  new : New w W
/-- The three results' cells. -/
def FRes (n0 : Nat) (x y z : Int) (W : World) : Prop :=
  Blk W (n0 + 1 + 1) #[.int .i64 x] 3 ∧ Blk W (n0 + 1 + 1 + 1) #[.int .i64 y] 3 ∧ Blk W (n0 + 1 + 1 + 1 + 1) #[.int .i64 z] 24

/-- How the blocks lie. -/
structure FLie (w : World) (n0 b bs bz L D : Nat) : Prop where
  h0 : n0 = w.heap.size
  h1 : n0 + 4 < b
  h2 : b < bs
  h3 : bs < bz
  h4 : bz < D
  h5 : D < L

theorem FEnv.step {w : World} {bound : Int} {cv : Value} {n0 b bs bz L D : Nat} {W W' : World} (hl : FLie w n0 b bs bz L D) (h : FEnv w bound cv n0 b bs L D W) (hm : Mod (fun k => k = b ∨ k = L ∨ W.heap.size ≤ k) W W') : FEnv w bound cv n0 b bs L D W' := by
  obtain ⟨h0, h1, h2, h3, h4, h5⟩ := hl
  obtain ⟨e0, e1, es, hd, new⟩ := h
  have l1 := es.lt
  have l0 := e0.lt; have l2 := e1.lt
  have l3 : D < W.heap.size := (Array.getElem?_eq_some_iff.1 hd).1
  exact ⟨hm.blk e0 (by omega), hm.blk e1 (by omega), hm.blk es (by omega), (hm.block D l3 (by omega)).trans hd, Mod.trans' new hm (fun i hi x => by omega)⟩
theorem FRes.step {w : World} {n0 b bs bz L D : Nat} {x y z : Int} {W W' : World} (hl : FLie w n0 b bs bz L D) (h : FRes n0 x y z W) (hm : Mod (fun k => k = b ∨ k = L ∨ W.heap.size ≤ k) W W') : FRes n0 x y z W' := by
  obtain ⟨h0, h1, h2, h3, h4, h5⟩ := hl
  obtain ⟨a0, a1, a2⟩ := h
  have l0 := a0.lt; have l1 := a1.lt; have l2 := a2.lt
  exact ⟨hm.blk a0 (by omega), hm.blk a1 (by omega), hm.blk a2 (by omega)⟩

theorem findRun_step (bound : Int) (ch : List Bool) (s : St) (ho : s.over = false) (h0 : 0 ≤ s.count) (h : s.count < 1000) (hs : (s.step bound ch).count = s.count + 1) :
    findRun bound ch (1000 - s.count).toNat s = findRun bound ch (1000 - (s.step bound ch).count).toNat (s.step bound ch) := by
  have e : (1000 - s.count).toNat = (1000 - (s.step bound ch).count).toNat + 1 := by omega
  rw [e, findRun]
  simp [ho]
theorem findRun_over (bound : Int) (ch : List Bool) (s : St) (ho : s.over = true) (k : Nat) : findRun bound ch k s = (s.low, s.count, 0) := by
  cases k <;> simp [findRun, ho]
theorem findRun_limit (bound : Int) (ch : List Bool) (s : St) (ho : s.over = false) (h : s.count = 1000) : findRun bound ch (1000 - s.count).toNat s = (0, 0, 4) := by
  have e : (1000 - s.count).toNat = 0 := by omega
  rw [e, findRun]
  simp [ho]
set_option maxRecDepth 100000 in
set_option maxHeartbeats 4000000 in
theorem find_any (low high bound : Int) (ca : Option Addr) (cn cc : Nat) (ch : List Bool) (w : World) (hr : right low high = true) (hb : 0 ≤ bound ∧ bound ≤ 10000) (hc : BoolsAt w (.slice ca cn cc) ch) :
    Calls Try.prog 7 #[.int .i64 low, .int .i64 high, .int .i64 bound, .slice ca cn cc] w fun e w' => e = .returned (.tuple #[.int .i64 (findRun bound ch 1000 (newSt low high)).1, .int .i64 (findRun bound ch 1000 (newSt low high)).2.1, .int .i64 (findRun bound ch 1000 (newSt low high)).2.2]) ∧ New w w' := by
  have hbx := hid (boxes5 w #[.int .i64 bound] #[.slice ca cn cc] #[.int .i64 0] #[.int .i64 0] #[.int .i64 0] 3 22 3 3 24)
  have HR := hid hr
  have HC := hid hc
  clear hr hc
  obtain ⟨hb1, hb2⟩ := hb
  refine (callsIn_wide (n := 9)).1 ?_
  refine callsIn_of_wp_marks Try.func7 rfl trivial ?_ rfl
  simp only [Try.ntmps7, List.size_toArray, List.length_cons, List.length_nil, Nat.reduceAdd, Nat.reduceSub, Array.replicate_succ, Array.replicate_zero, List.push_toArray, List.append_toArray, List.nil_append, List.cons_append]
  gi_wp2_with (first | (refine ⟨trivial, ?_⟩; gi_at_call 12; refine (callsIn_wide.2 (new_ok _ _ _ HR.out)).mono ?_; rintro e w1 ⟨rfl, hB1, hN1⟩; have HN1 := hid hN1; have HB1 := hid hB1; have hsz := hN1.size; simp only [World.size_alloc] at hsz; obtain ⟨g0, g1, g2, g3, g4⟩ := hbx.out; obtain ⟨d0, -, l0⟩ := (New.blk hN1 g0).one; clear g0 g1 g2 g3 g4 hB1 hN1) | (refine ⟨trivial, ?_⟩; gi_at_call 33; refine (callsIn_wide.2 (sizes_any _ _)).mono ?_; rintro e w2 ⟨rfl, rfl⟩))
  refine name_world (p := fun W => Code.wpIn _ _ _ _ _ _ W) (fun W0 hW0 => ?_)
  have hbB := HB1.out.lt
  have hlie : FLie w w.heap.size (w.heap.size + 1 + 1 + 1 + 1 + 1) w1.heap.size (w1.heap.size + 1) (W0.heap.size + 1) W0.heap.size := by
    rw [hW0]
    simp only [World.size_alloc] at hbB ⊢
    exact ⟨rfl, by omega, by omega, by omega, by omega, by omega⟩
  have HLIE := hid hlie
  have HW0 := hid hW0
  clear hlie hW0 hbB
  refine wpIn_range rfl (by omega) (gf := 44) (lb := #[.pointer (some ⟨w1.heap.size + 1, 0, none⟩)]) rfl trivial (enters_of Try.func44 (by kernel_rfl) rfl) ?_
  intro fn _ rec hrec
  refine (sizes1_any (W0.heap.size + 1) (w.heap.size + 1 + 1 + 1 + 1 + 1) (w1.heap.size + 1) 8 (by omega)
    (fun s W => s.At ∧ s.count ≤ 1000 ∧ findRun bound ch (1000 - s.count).toNat s = findRun bound ch 1000 (newSt low high) ∧ Blk W (w.heap.size + 1 + 1 + 1 + 1 + 1) (prow s none) 58 ∧ Blk W (w1.heap.size + 1) #[.pointer (some ⟨w.heap.size + 1 + 1 + 1 + 1 + 1, 0, none⟩)] 31 ∧
      FEnv w bound (.slice ca cn cc) w.heap.size (w.heap.size + 1 + 1 + 1 + 1 + 1) w1.heap.size (W0.heap.size + 1) W0.heap.size W ∧ FRes w.heap.size 0 0 0 W ∧ W.heap[W0.heap.size + 1]? = some (.loop (rec .ready none)))
    (fun W => FEnv w bound (.slice ca cn cc) w.heap.size (w.heap.size + 1 + 1 + 1 + 1 + 1) w1.heap.size (W0.heap.size + 1) W0.heap.size W ∧
      ((∃ s, Blk W (w.heap.size + 1 + 1 + 1 + 1 + 1) (prow s none) 58 ∧ findRun bound ch 1000 (newSt low high) = (s.low, s.count, 0) ∧ FRes w.heap.size 0 0 0 W ∧ W.heap[W0.heap.size + 1]? = some (.loop (rec .ready none))) ∨
       (findRun bound ch 1000 (newSt low high) = (0, 0, 4) ∧ FRes w.heap.size 0 0 4 W ∧ W.heap[W0.heap.size + 1]? = some (.loop (rec .done (some .ret))))))
    ?hI ?hN ?hY ?hE (newSt low high) _ ?h0).mono ?fin
  case hI =>
    rintro s W ⟨h1, h2, -, h4, h5, -⟩
    exact ⟨h1, h2, h4, h5⟩
  case hN =>
    rintro s W W' ⟨h1, h2, h3, h4, h5, h6, h7, h8⟩ hn
    exact ⟨h1, h2, h3, hn.blk h4, hn.blk h5, FEnv.step HLIE.out h6 hn.mod, FRes.step HLIE.out h7 hn.mod, (hn.block _ (Array.getElem?_eq_some_iff.1 h8).1 (fun x => x)).trans h8⟩
  case hE =>
    rintro s W ⟨h1, h2, h3, h4, h5, h6, h7, h8⟩ ho
    exact ⟨h6, .inl ⟨s, h4, by rw [← h3, findRun_over _ _ _ ho], h7, h8⟩⟩
  case h0 =>
    have hW0 := HW0.out
    obtain ⟨g0, g1, g2, g3, g4⟩ := hbx.out
    have hn : New w1 W0 := by
      rw [hW0]
      repeat (first | with_reducible exact Mod.refl _ _ | with_reducible refine Mod.alloc ?_ _ | with_reducible refine Mod.drew ?_ | with_reducible refine Mod.drewN ?_ _ | (with_reducible refine Mod.set ?_ _ _ (by first | exact .inl rfl | (right; omega) | (right; simp; done) | (right; simp; omega) | (left; omega) | (left; simp; done) | (left; simp; omega))) | (with_reducible refine Mod.putObj ?_ _ _ (by first | exact .inl rfl | (right; omega) | (right; simp; done) | (right; simp; omega) | (left; omega) | (left; simp; done) | (left; simp; omega))))
    have hn2 : New W0 ((W0.alloc (.deferred (some []))).alloc (.loop (rec .ready none))) := Mod.alloc (Mod.alloc (Mod.refl _ _) _) _
    have hn3 := Mod.trans HN1.out (Mod.trans hn hn2)
    have hnw : New w ((W0.alloc (.deferred (some []))).alloc (.loop (rec .ready none))) := by
      refine Mod.trans ?_ hn3
      repeat (first | with_reducible exact Mod.refl _ _ | with_reducible refine Mod.alloc ?_ _ | with_reducible refine Mod.drew ?_ | with_reducible refine Mod.drewN ?_ _ | (with_reducible refine Mod.set ?_ _ _ (by first | exact .inl rfl | (right; omega) | (right; simp; done) | (right; simp; omega) | (left; omega) | (left; simp; done) | (left; simp; omega))) | (with_reducible refine Mod.putObj ?_ _ _ (by first | exact .inl rfl | (right; omega) | (right; simp; done) | (right; simp; omega) | (left; omega) | (left; simp; done) | (left; simp; omega))))
    have hsz0 : W0.heap.size = w1.heap.size + 1 + 1 := by rw [hW0]; simp
    have b1 : Blk W0 w1.heap.size #[.pointer (some ⟨w.heap.size + 1 + 1 + 1 + 1 + 1, 0, none⟩)] 31 := by
      rw [hW0]; exact (Blk.new _ _ _).alloc _
    have b2 : Blk W0 (w1.heap.size + 1) #[.pointer (some ⟨w.heap.size + 1 + 1 + 1 + 1 + 1, 0, none⟩)] 31 := by
      rw [hW0]; exact Blk.newAt (by simp)
    refine ⟨at_new low high HR.out, ?_, ?_, ?_, hn2.blk b2, ⟨New.blk hn3 g0, New.blk hn3 g1, hn2.blk b1, ?_, hnw⟩, ⟨New.blk hn3 g2, New.blk hn3 g3, New.blk hn3 g4⟩, ?_⟩
    · unfold newSt St.settle; split <;> simp
    · have : (newSt low high).count = 0 := by unfold newSt St.settle; split <;> rfl
      rw [this]; rfl
    · have := HB1.out
      simp only [World.size_alloc] at this
      exact hn2.blk (hn.blk this)
    · exact (Below.heap_alloc _ _ _ (by simp)).trans (World.alloc_heap_new W0 _)
    · have := World.alloc_heap_new (w := W0.alloc (.deferred (some []))) (o := .loop (rec .ready none))
      rwa [World.size_alloc] at this
  case hY =>
    rintro s W W' bp ⟨h1, h2, h3, h4, h5, h6, h7, h8⟩ ho hbp hB hP hM
    obtain ⟨x0, x1, x2, x3, x4, x5⟩ := HLIE.out
    have hm1 : Mod (fun k => k = w.heap.size + 1 + 1 + 1 + 1 + 1 ∨ k = W0.heap.size + 1 ∨ W.heap.size ≤ k) W W' := hM.mono (fun i _ x => .inl x)
    have hl : W'.heap[W0.heap.size + 1]? = some (.loop (rec .ready none)) := (hM.block _ (Array.getElem?_eq_some_iff.1 h8).1 (by omega)).trans h8
    have hbs : Blk W' (w1.heap.size + 1) #[.pointer (some ⟨w.heap.size + 1 + 1 + 1 + 1 + 1, 0, none⟩)] 31 := hM.blk h5 (by omega)
    refine yieldAt_round hrec hl rfl trivial ?_
    have HL := hid hl; have HBS := hid hbs
    have HENV := hid (FEnv.step HLIE.out h6 hm1); have HRES := hid (FRes.step HLIE.out h7 hm1)
    have HB := hid hB; have HP := hid hP
    have hLW : W0.heap.size + 1 < W.heap.size := (Array.getElem?_eq_some_iff.1 h8).1
    clear hl hbs hB hP hm1 hM h4 h5 h6 h7 h8 hrec hsz
    gi_wp2
    refine ⟨HL.out, ?_⟩
    refine name_world (p := fun W => Code.wpIn _ _ _ _ _ _ W) (fun W3 hW3 => ?_)
    have hm3 : Mod (fun k => k = w.heap.size + 1 + 1 + 1 + 1 + 1 ∨ k = W0.heap.size + 1 ∨ W'.heap.size ≤ k) W' W3 := by
      rw [hW3]; exact Mod.putObj (Mod.refl _ _) _ _ (.inl (.inr (.inl rfl)))
    have henv := FEnv.step HLIE.out HENV.out hm3
    have hres := FRes.step HLIE.out HRES.out hm3
    have hl3 : W3.heap[W0.heap.size + 1]? = some (.loop (rec .busy none)) := by
      rw [hW3]; exact World.putObj_heap_same (Array.getElem?_eq_some_iff.1 HL.out).1
    have hB3 : Blk W3 (w.heap.size + 1 + 1 + 1 + 1 + 1) (prow (s.asks 0) (some ⟨bp, 0, none⟩)) 58 := by
      rw [hW3]; exact Blk.putObj (by omega) HB.out
    have hP3 : Blk W3 bp #[.int .i64 (s.asks 0).size, .int .i64 (s.asks 0).count] 65 := by
      rw [hW3]; exact Blk.putObj (by omega) HP.out
    have hbs3 : Blk W3 (w1.heap.size + 1) #[.pointer (some ⟨w.heap.size + 1 + 1 + 1 + 1 + 1, 0, none⟩)] 31 := by
      rw [hW3]; exact Blk.putObj (by omega) HBS.out
    have hch := HC.out.new henv.new
    clear hW3 hm3 HENV HRES HL HB HP HBS
    have hcs : (s.asks 0).count = s.count + 1 := rfl
    have hc0 := h1.ok.c1
    have htok := asks_ok s h1 ho (by omega)
    have htend := asks_end s h1 ho h1.ok.c1
    have hprobe : Probe W3 (w.heap.size + 1 + 1 + 1 + 1 + 1) (s.asks 0) (some ⟨bp, 0, none⟩) := by
      refine .inr ⟨?_, bp, rfl, by omega, hP3⟩
      have := h1.ok.l1; have := h1.ok.l2
      simp [St.asks]; omega
    have hstep : s.step bound ch = (s.asks 0).told 0 (s.asks 0).count 0 (if lossAt bound ch (s.asks 0).size (s.asks 0).count then 1 else 0) := rfl
    have hinv := step_at bound ch s h1 ho (show s.count < 1000000000 by omega)
    have hrun := fun hlt h => findRun_step bound ch s ho hc0 hlt h
    by_cases hlim : s.count = 1000
    · have hlimit := findRun_limit bound ch s ho hlim
      rw [h3] at hlimit
      have H1 := hid hlimit; have H2 := hid henv; have H3 := hid hl3
      obtain ⟨y1, y2, y3⟩ := hres
      obtain ⟨v1, f1, l1⟩ := y1.one
      obtain ⟨v2, f2, l2⟩ := y2.one
      obtain ⟨v3, f3, l3⟩ := y3.one
      have Y := hid (And.intro y1 (And.intro y2 y3))
      have hgt : 1000 < (s.asks 0).count := by omega
      clear hlimit henv hl3 y1 y2 y3 hB3 hP3 hbs3 hch htok htend hprobe hstep hinv hrun h1 h2 h3 ho hcs hc0 hlim
      gi_wp2
      refine ⟨?_, .inr ⟨rfl, ?_, .inr ⟨H1.out, ?_, ?_⟩⟩⟩
      · have := H3.out
        repeat (first | with_reducible exact this | with_reducible apply ob_drew | with_reducible apply ob_alloc | (with_reducible apply ob_set; · first | omega | (simp; omega)) | (with_reducible apply ob_put; · first | omega | (simp; omega)))
      · obtain ⟨e0, e1, es, hd, new⟩ := H2.out
        refine ⟨?_, ?_, ?_, ?_, ?_⟩
        · apply Blk.row
          · repeat (first | with_reducible exact e0 | (with_reducible apply Blk.newAt; (simp; done)) | with_reducible apply Blk.alloc | with_reducible apply Blk.drew | with_reducible apply Blk.drewN | with_reducible apply Blk.set | (with_reducible apply Blk.other; · first | (simp; done) | (simp; omega) | omega) | (with_reducible apply Blk.putObj; · first | (simp; done) | (simp; omega) | omega))
          · rfl
        · apply Blk.row
          · repeat (first | with_reducible exact e1 | (with_reducible apply Blk.newAt; (simp; done)) | with_reducible apply Blk.alloc | with_reducible apply Blk.drew | with_reducible apply Blk.drewN | with_reducible apply Blk.set | (with_reducible apply Blk.other; · first | (simp; done) | (simp; omega) | omega) | (with_reducible apply Blk.putObj; · first | (simp; done) | (simp; omega) | omega))
          · rfl
        · apply Blk.row
          · repeat (first | with_reducible exact es | (with_reducible apply Blk.newAt; (simp; done)) | with_reducible apply Blk.alloc | with_reducible apply Blk.drew | with_reducible apply Blk.drewN | with_reducible apply Blk.set | (with_reducible apply Blk.other; · first | (simp; done) | (simp; omega) | omega) | (with_reducible apply Blk.putObj; · first | (simp; done) | (simp; omega) | omega))
          · rfl
        · repeat (first | with_reducible exact hd | with_reducible apply ob_drew | with_reducible apply ob_alloc | (with_reducible apply ob_set; · first | omega | (simp; omega)) | (with_reducible apply ob_put; · first | omega | (simp; omega)))
        · repeat (first | with_reducible exact new | with_reducible refine Mod.alloc ?_ _ | with_reducible refine Mod.drew ?_ | with_reducible refine Mod.drewN ?_ _ | (with_reducible refine Mod.set ?_ _ _ (by first | exact .inl rfl | (right; omega) | (right; simp; done) | (right; simp; omega) | (left; omega) | (left; simp; done) | (left; simp; omega))) | (with_reducible refine Mod.putObj ?_ _ _ (by first | exact .inl rfl | (right; omega) | (right; simp; done) | (right; simp; omega) | (left; omega) | (left; simp; done) | (left; simp; omega))))
      · obtain ⟨y1, y2, y3⟩ := Y.out
        refine ⟨?_, ?_, ?_⟩
        · apply Blk.row
          · repeat (first | with_reducible exact y1 | (with_reducible apply Blk.newAt; (simp; done)) | with_reducible apply Blk.alloc | with_reducible apply Blk.drew | with_reducible apply Blk.drewN | with_reducible apply Blk.set | (with_reducible apply Blk.other; · first | (simp; done) | (simp; omega) | omega) | (with_reducible apply Blk.putObj; · first | (simp; done) | (simp; omega) | omega))
          · rfl
        · apply Blk.row
          · repeat (first | with_reducible exact y2 | (with_reducible apply Blk.newAt; (simp; done)) | with_reducible apply Blk.alloc | with_reducible apply Blk.drew | with_reducible apply Blk.drewN | with_reducible apply Blk.set | (with_reducible apply Blk.other; · first | (simp; done) | (simp; omega) | omega) | (with_reducible apply Blk.putObj; · first | (simp; done) | (simp; omega) | omega))
          · rfl
        · apply Blk.row
          · repeat (first | with_reducible exact y3 | (with_reducible apply Blk.newAt; (simp; done)) | with_reducible apply Blk.alloc | with_reducible apply Blk.drew | with_reducible apply Blk.drewN | with_reducible apply Blk.set | (with_reducible apply Blk.other; · first | (simp; done) | (simp; omega) | omega) | (with_reducible apply Blk.putObj; · first | (simp; done) | (simp; omega) | omega))
          · rfl
      · exact World.putObj_heap_same (by have := (Array.getElem?_eq_some_iff.1 H3.out).1; simpa using this)
    · have hlt : s.count < 1000 := by omega
      obtain ⟨ha1, ha2⟩ := hinv
      have hrun' := hrun hlt ha2
      rw [h3] at hrun'
      have HI := hid (And.intro ha1 (And.intro ha2 hrun'))
      have htb : 0 ≤ (s.asks 0).size ∧ (s.asks 0).size ≤ 9000 := ⟨htok.z0, by have := htok.a2; have : (s.asks 0).asked = (s.asks 0).size := rfl; omega⟩
      obtain ⟨t1, t2⟩ := htb
      obtain ⟨v0, -, -⟩ := henv.e0.one
      obtain ⟨v1, -, -⟩ := henv.e1.one
      obtain ⟨v2, -, -⟩ := henv.es.one
      have c3 : W3.cell? ⟨w.heap.size + 1 + 1 + 1 + 1 + 1, 3, none⟩ = some (.int .i64 0) := hB3.cellv 3 rfl
      have hle : (s.asks 0).count ≤ 1000 := by omega
      have hge : 1 ≤ (s.asks 0).count := by omega
      have HH := hid (And.intro htok (And.intro hB3 hprobe))
      have HT := hid htend
      have H2 := hid henv; have H3 := hid hl3; have H4 := hid hres; have H5 := hid hbs3
      obtain ⟨t, ht⟩ : ∃ t, s.asks 0 = t := ⟨_, rfl⟩
      rw [ht] at hstep HH HT t1 t2 hle hge ⊢
      have HS := hid hstep
      have HK := hid h1
      clear ht henv hl3 hB3 hP3 hbs3 htok htend hprobe hstep hrun hrun' h1 h2 h3 ho hcs hc0 hlim ha1 ha2 hres
      have hmix : Try.prog.follows .mixedOrders = true := by kernel_rfl
      by_cases hA : bound < t.size
      · have hloss : lossAt bound ch t.size t.count = true := by simp [lossAt, hA]
        have HLS := hid hloss
        clear hloss hch
        gi_wp2
        gi_region_with_o (refine ⟨trivial, ?_⟩; gi_at_call 23; refine (CallsIn.inRound _ (callsIn_wide.2 (Lost_no _ t _ 0 t.count _ HH.out.1 HH.out.2.1.drew HH.out.2.2))).mono ?_; rintro e W4 ⟨rfl, hT⟩; have HT4 := hid hT; clear hT)
        all_goals gi_wp2
        all_goals
          obtain ⟨p', hB4, hP4, -, hM4⟩ := HT4.out
          have hst : s.step bound ch = t.told 0 t.count 0 1 := by rw [HS.out, HLS.out]; rfl
          obtain ⟨ha1, ha2, hr⟩ := HI.out
          have hp0 : p' = none := by
            rcases hP4 with ⟨_, h⟩ | ⟨h, _⟩
            · exact h
            · exact absurd (hst ▸ ha1.size) h
          subst hp0
          rw [← hst] at hB4
          have hM5 : Mod (fun k => k = w.heap.size + 1 + 1 + 1 + 1 + 1) W3 W4 := Mod.trans (Mod.drew (Mod.refl _ _)) hM4
          have hm5 : Mod (fun k => k = w.heap.size + 1 + 1 + 1 + 1 + 1 ∨ k = W0.heap.size + 1 ∨ W3.heap.size ≤ k) W3 (W4.putObj (W0.heap.size + 1) (.loop (rec .ready none))) :=
            Mod.putObj (hM5.mono (fun i _ x => .inl x)) _ _ (.inl (.inr (.inl rfl)))
          have hl5 : W4.heap[W0.heap.size + 1]? = some (.loop (rec .busy none)) := (hM5.block _ (Array.getElem?_eq_some_iff.1 H3.out).1 (by omega)).trans H3.out
          refine ⟨hl5, .inl ⟨rfl, s.step bound ch, ⟨ha1, by omega, hr.symm, Blk.putObj (by omega) hB4, Blk.putObj (by omega) (hM5.blk H5.out (by omega)), FEnv.step HLIE.out H2.out hm5, FRes.step HLIE.out H4.out hm5, World.putObj_heap_same (Array.getElem?_eq_some_iff.1 hl5).1⟩, by omega⟩⟩
      · by_cases hD : t.count ≤ ch.length
        · have hi : (t.count - 1).toNat < ch.length := by omega
          rcases hch with ⟨⟨_, _, hv⟩, hnil⟩ | ⟨cb, coff, cap, hv, hcb, hcl, hcc⟩
          · rw [hnil] at hi; simp at hi
          · have hcell := hcc _ hi
            have hcn : cn = ch.length := by injection hv
            have hca : ca = some ⟨cb, coff, none⟩ := by injection hv
            subst hcn; subst hca
            have hcl' : (ch.length : Int) ≤ 9223372036854775807 := by unfold maxLen at hcl; omega
            rw [show coff + (t.count - 1).toNat = coff + (t.count.toNat - 1) from by omega] at hcell
            clear hcc hv hcl
            cases hE : ch.getD (t.count - 1).toNat false with
            | true =>
              have hloss : lossAt bound ch t.size t.count = true := by simp only [lossAt, hE, decide_eq_true hD]; simp
              have HLS := hid hloss
              rw [hE] at hcell
              have HEE := hid hE
              clear hloss hE
              gi_wp2
              gi_region_with_o (refine ⟨trivial, ?_⟩; gi_at_call 23; refine (CallsIn.inRound _ (callsIn_wide.2 (Lost_no _ t _ 0 t.count _ HH.out.1 HH.out.2.1.drew HH.out.2.2))).mono ?_; rintro e W4 ⟨rfl, hT⟩; have HT4 := hid hT; clear hT)
              all_goals gi_wp2
              all_goals
                obtain ⟨p', hB4, hP4, -, hM4⟩ := HT4.out
                have hst : s.step bound ch = t.told 0 t.count 0 1 := by rw [HS.out, HLS.out]; rfl
                obtain ⟨ha1, ha2, hr⟩ := HI.out
                have hp0 : p' = none := by
                  rcases hP4 with ⟨_, h⟩ | ⟨h, _⟩
                  · exact h
                  · exact absurd (hst ▸ ha1.size) h
                subst hp0
                rw [← hst] at hB4
                have hM5 : Mod (fun k => k = w.heap.size + 1 + 1 + 1 + 1 + 1) W3 W4 := Mod.trans (Mod.drew (Mod.refl _ _)) hM4
                have hm5 : Mod (fun k => k = w.heap.size + 1 + 1 + 1 + 1 + 1 ∨ k = W0.heap.size + 1 ∨ W3.heap.size ≤ k) W3 (W4.putObj (W0.heap.size + 1) (.loop (rec .ready none))) :=
                  Mod.putObj (hM5.mono (fun i _ x => .inl x)) _ _ (.inl (.inr (.inl rfl)))
                have hl5 : W4.heap[W0.heap.size + 1]? = some (.loop (rec .busy none)) := (hM5.block _ (Array.getElem?_eq_some_iff.1 H3.out).1 (by omega)).trans H3.out
                refine ⟨hl5, .inl ⟨rfl, s.step bound ch, ⟨ha1, by omega, hr.symm, Blk.putObj (by omega) hB4, Blk.putObj (by omega) (hM5.blk H5.out (by omega)), FEnv.step HLIE.out H2.out hm5, FRes.step HLIE.out H4.out hm5, World.putObj_heap_same (Array.getElem?_eq_some_iff.1 hl5).1⟩, by omega⟩⟩
            | false =>
              have hloss : lossAt bound ch t.size t.count = false := by simp only [lossAt, hE]; simp; omega
              have HLS := hid hloss
              rw [hE] at hcell
              have HEE := hid hE
              clear hloss hE
              gi_wp2
              gi_region_with_o (refine ⟨trivial, ?_⟩; gi_at_call 21; refine (CallsIn.inRound _ (callsIn_wide.2 (Acked_any _ t _ 0 t.count _ HH.out.1 HH.out.2.1.drew HH.out.2.2))).mono ?_; rintro e W4 ⟨rfl, hT⟩; have HT4 := hid hT; clear hT)
              all_goals gi_wp2
              all_goals
                obtain ⟨p', hB4, hP4, -, hM4⟩ := HT4.out
                have hst : s.step bound ch = t.told 0 t.count 0 0 := by rw [HS.out, HLS.out]; rfl
                obtain ⟨ha1, ha2, hr⟩ := HI.out
                have hp0 : p' = none := by
                  rcases hP4 with ⟨_, h⟩ | ⟨h, _⟩
                  · exact h
                  · exact absurd (hst ▸ ha1.size) h
                subst hp0
                rw [← hst] at hB4
                have hM5 : Mod (fun k => k = w.heap.size + 1 + 1 + 1 + 1 + 1) W3 W4 := Mod.trans (Mod.drew (Mod.refl _ _)) hM4
                have hm5 : Mod (fun k => k = w.heap.size + 1 + 1 + 1 + 1 + 1 ∨ k = W0.heap.size + 1 ∨ W3.heap.size ≤ k) W3 (W4.putObj (W0.heap.size + 1) (.loop (rec .ready none))) :=
                  Mod.putObj (hM5.mono (fun i _ x => .inl x)) _ _ (.inl (.inr (.inl rfl)))
                have hl5 : W4.heap[W0.heap.size + 1]? = some (.loop (rec .busy none)) := (hM5.block _ (Array.getElem?_eq_some_iff.1 H3.out).1 (by omega)).trans H3.out
                refine ⟨hl5, .inl ⟨rfl, s.step bound ch, ⟨ha1, by omega, hr.symm, Blk.putObj (by omega) hB4, Blk.putObj (by omega) (hM5.blk H5.out (by omega)), FEnv.step HLIE.out H2.out hm5, FRes.step HLIE.out H4.out hm5, World.putObj_heap_same (Array.getElem?_eq_some_iff.1 hl5).1⟩, by omega⟩⟩
        · have hloss : lossAt bound ch t.size t.count = false := by simp [lossAt]; omega
          have hcn : cn = ch.length := by
            rcases hch with ⟨⟨_, _, hv⟩, hnil⟩ | ⟨cb, coff, cap, hv, hcb, hcl, hcc⟩
            · rw [hnil]; injection hv
            · injection hv
          subst hcn
          have HLS := hid hloss
          clear hloss hch
          gi_wp2
          gi_region_with_o (refine ⟨trivial, ?_⟩; gi_at_call 21; refine (CallsIn.inRound _ (callsIn_wide.2 (Acked_any _ t _ 0 t.count _ HH.out.1 HH.out.2.1.drew HH.out.2.2))).mono ?_; rintro e W4 ⟨rfl, hT⟩; have HT4 := hid hT; clear hT)
          all_goals gi_wp2
          all_goals
            obtain ⟨p', hB4, hP4, -, hM4⟩ := HT4.out
            have hst : s.step bound ch = t.told 0 t.count 0 0 := by rw [HS.out, HLS.out]; rfl
            obtain ⟨ha1, ha2, hr⟩ := HI.out
            have hp0 : p' = none := by
              rcases hP4 with ⟨_, h⟩ | ⟨h, _⟩
              · exact h
              · exact absurd (hst ▸ ha1.size) h
            subst hp0
            rw [← hst] at hB4
            have hM5 : Mod (fun k => k = w.heap.size + 1 + 1 + 1 + 1 + 1) W3 W4 := Mod.trans (Mod.drew (Mod.refl _ _)) hM4
            have hm5 : Mod (fun k => k = w.heap.size + 1 + 1 + 1 + 1 + 1 ∨ k = W0.heap.size + 1 ∨ W3.heap.size ≤ k) W3 (W4.putObj (W0.heap.size + 1) (.loop (rec .ready none))) :=
              Mod.putObj (hM5.mono (fun i _ x => .inl x)) _ _ (.inl (.inr (.inl rfl)))
            have hl5 : W4.heap[W0.heap.size + 1]? = some (.loop (rec .busy none)) := (hM5.block _ (Array.getElem?_eq_some_iff.1 H3.out).1 (by omega)).trans H3.out
            refine ⟨hl5, .inl ⟨rfl, s.step bound ch, ⟨ha1, by omega, hr.symm, Blk.putObj (by omega) hB4, Blk.putObj (by omega) (hM5.blk H5.out (by omega)), FEnv.step HLIE.out H2.out hm5, FRes.step HLIE.out H4.out hm5, World.putObj_heap_same (Array.getElem?_eq_some_iff.1 hl5).1⟩, by omega⟩⟩
  case fin =>
    rintro e W ⟨hv, henv, hcase⟩
    refine ⟨hv, henv.hd, ?_⟩
    rcases hcase with ⟨s, k1, k2, k3, k4⟩ | ⟨k2, k3, k4⟩
    · refine .inl ⟨k4, ?_⟩
      refine name_world (p := fun W => Exit.inBlock _ _ _ _ W) (fun W5 hW5 => ?_)
      have hm5 : Mod (fun k => k = w.heap.size + 1 + 1 + 1 + 1 + 1 ∨ k = W0.heap.size + 1 ∨ W.heap.size ≤ k) W W5 := by
        rw [hW5]; exact Mod.putObj (Mod.refl _ _) _ _ (.inl (.inr (.inl rfl)))
      have henv5 := FEnv.step HLIE.out henv hm5
      have hres5 := FRes.step HLIE.out k3 hm5
      have kb5 : Blk W5 (w.heap.size + 1 + 1 + 1 + 1 + 1) (prow s none) 58 := by
        rw [hW5]
        exact Blk.putObj (by obtain ⟨x0, x1, x2, x3, x4, x5⟩ := HLIE.out; omega) k1
      clear hW5 henv hm5 k1 k3 k4 hv
      obtain ⟨q1, q2, q3⟩ := hres5
      obtain ⟨v1, f1, l1⟩ := q1.one
      obtain ⟨v2, f2, l2⟩ := q2.one
      obtain ⟨v3, f3, l3⟩ := q3.one
      obtain ⟨v4, f4, l4⟩ := henv5.es.one
      have KB := hid kb5
      have HE := hid henv5
      have K2 := hid k2
      have HQ := hid (And.intro q1 (And.intro q2 q3))
      clear kb5 henv5 k2 q1 q2 q3 hsz
      have hmix : Try.prog.follows .mixedOrders = true := by kernel_rfl
      gi_wp2
      gi_region_with_o (first | (refine ⟨trivial, ?_⟩; gi_at_call 14; refine (callsIn_wide.2 (Size_any _ s none _ KB.out.drew)).mono ?_; rintro e w' ⟨rfl, rfl⟩) | (refine ⟨trivial, ?_⟩; gi_at_call 15; refine (callsIn_wide.2 (Sent_any _ s none _ KB.out.drew)).mono ?_; rintro e w' ⟨rfl, rfl⟩))
      all_goals gi_wp2
      all_goals refine name_world (p := fun W => bodyPostM _ _ _ _ _ _ _ W) (fun Wf hWf => ?_)
      all_goals
        obtain ⟨q1, q2, q3⟩ := HQ.out
        obtain ⟨x0, x1, x2, x3, x4, x5⟩ := HLIE.out
        have y1 : Blk Wf (w.heap.size + 1 + 1) #[.int .i64 s.low] 3 := by
          rw [hWf]
          apply Blk.row
          · repeat (first | with_reducible exact q1 | (with_reducible apply Blk.newAt; (simp; done)) | with_reducible apply Blk.alloc | with_reducible apply Blk.drew | with_reducible apply Blk.drewN | with_reducible apply Blk.set | (with_reducible apply Blk.other; · first | (simp; done) | (simp; omega) | omega) | (with_reducible apply Blk.putObj; · first | (simp; done) | (simp; omega) | omega))
          · rfl
        have y2 : Blk Wf (w.heap.size + 1 + 1 + 1) #[.int .i64 s.count] 3 := by
          rw [hWf]
          apply Blk.row
          · repeat (first | with_reducible exact q2 | (with_reducible apply Blk.newAt; (simp; done)) | with_reducible apply Blk.alloc | with_reducible apply Blk.drew | with_reducible apply Blk.drewN | with_reducible apply Blk.set | (with_reducible apply Blk.other; · first | (simp; done) | (simp; omega) | omega) | (with_reducible apply Blk.putObj; · first | (simp; done) | (simp; omega) | omega))
          · rfl
        have y3 : Blk Wf (w.heap.size + 1 + 1 + 1 + 1) #[.int .i64 0] 24 := by
          rw [hWf]
          apply Blk.row
          · repeat (first | with_reducible exact q3 | (with_reducible apply Blk.newAt; (simp; done)) | with_reducible apply Blk.alloc | with_reducible apply Blk.drew | with_reducible apply Blk.drewN | with_reducible apply Blk.set | (with_reducible apply Blk.other; · first | (simp; done) | (simp; omega) | omega) | (with_reducible apply Blk.putObj; · first | (simp; done) | (simp; omega) | omega))
          · rfl
        have hn : New w Wf := by
          have := HE.out.new
          rw [hWf]
          repeat (first | with_reducible exact this | with_reducible refine Mod.alloc ?_ _ | with_reducible refine Mod.drew ?_ | with_reducible refine Mod.drewN ?_ _ | (with_reducible refine Mod.set ?_ _ _ (by first | exact .inl rfl | (right; omega) | (right; simp; done) | (right; simp; omega) | (left; omega) | (left; simp; done) | (left; simp; omega))) | (with_reducible refine Mod.putObj ?_ _ _ (by first | exact .inl rfl | (right; omega) | (right; simp; done) | (right; simp; omega) | (left; omega) | (left; simp; done) | (left; simp; omega))))
        have hD : Wf.heap[W0.heap.size]? = some (.deferred (some [])) := by
          have := HE.out.hd
          rw [hWf]
          repeat (first | with_reducible exact this | with_reducible apply ob_drew | with_reducible apply ob_alloc | (with_reducible apply ob_set; · first | omega | (simp; omega)) | (with_reducible apply ob_put; · first | omega | (simp; omega)))
        clear hWf q1 q2 q3
        refine ⟨by simp, .inl ⟨_, _, rfl, run_takeDeferred hD, ?_⟩⟩
        obtain ⟨v1, -, -⟩ := (Blk.putObj (o := .deferred none) (r := W0.heap.size) (by omega) y1).one
        obtain ⟨v2, -, -⟩ := (Blk.putObj (o := .deferred none) (r := W0.heap.size) (by omega) y2).one
        obtain ⟨v3, -, -⟩ := (Blk.putObj (o := .deferred none) (r := W0.heap.size) (by omega) y3).one
        refine ⟨.tuple #[.int .i64 (s.low), .int .i64 (s.count), .int .i64 (0)], by simp [results, Try.results7, go_sem, v1, v2, v3], ?_, Mod.putObj hn _ _ (.inr (by omega))⟩
        rw [K2.out]
    · refine .inr ⟨.ret, k4, ?_⟩
      refine name_world (p := fun W => Code.wpIn _ _ _ _ _ _ W) (fun W5 hW5 => ?_)
      have hm5 : Mod (fun k => k = w.heap.size + 1 + 1 + 1 + 1 + 1 ∨ k = W0.heap.size + 1 ∨ W.heap.size ≤ k) W W5 := by
        rw [hW5]; exact Mod.putObj (Mod.refl _ _) _ _ (.inl (.inr (.inl rfl)))
      have henv5 := FEnv.step HLIE.out henv hm5
      obtain ⟨y1, y2, y3⟩ := FRes.step HLIE.out k3 hm5
      have hn := henv5.new
      have hD := henv5.hd
      have K2 := hid k2
      clear hW5 henv hm5 k2 k3 k4 hv henv5 hsz
      have Y1 := hid y1; have Y2 := hid y2; have Y3 := hid y3; have HN := hid hn; have HD := hid hD
      clear y1 y2 y3 hn hD
      gi_wp2
      have y1 := Y1.out; have y2 := Y2.out; have y3 := Y3.out; have hn := HN.out; have hD := HD.out
      have Wf := W5
      obtain ⟨x0, x1, x2, x3, x4, x5⟩ := HLIE.out
      refine ⟨by simp, .inl ⟨_, _, rfl, run_takeDeferred hD, ?_⟩⟩
      obtain ⟨v1, -, -⟩ := (Blk.putObj (o := .deferred none) (r := W0.heap.size) (by omega) y1).one
      obtain ⟨v2, -, -⟩ := (Blk.putObj (o := .deferred none) (r := W0.heap.size) (by omega) y2).one
      obtain ⟨v3, -, -⟩ := (Blk.putObj (o := .deferred none) (r := W0.heap.size) (by omega) y3).one
      refine ⟨.tuple #[.int .i64 (0), .int .i64 (0), .int .i64 (4)], by simp [results, Try.results7, go_sem, v1, v2, v3], ?_, Mod.putObj hn _ _ (.inr (by omega))⟩
      rw [K2.out]
end Go.Proofs.Ytakglmdpaaiclaa
