/-
  Several texts in one, in their build order. A map of strings to functions that a call has made: its look-up and its store. Over any program. No condition. The walk of parts (package magnet): the map of the functions that read a magnet's parts. No condition. The walks of the functions that read a magnet's topic and name (package magnet). Conditions: the reader lies as told; the text is small. The walk of topic (package magnet). Conditions: the reader lies as told; the text is small.
-/
import Derived.Test.YtbgmkplpolgebaaGreatDoorM1
import Derived.Maps.OwnOps
import Derived.MapKept
import Derived.Carry
import Derived.Test.YtbgmkplpolgebaaGreatDoorM7
namespace Go.Proofs.YtbgmkplpolgebaaGreatDoor
set_option linter.unusedSimpArgs false
set_option linter.unusedVariables false
open Go.RowKit Go.MapKept

/-- Block b is a map; its entries are just those of L. -/
def FunAt (w : World) (b : Nat) (L : List (ByteArray × Value)) : Prop :=
  ∃ es clock, w.heap[b]? = some (.map es clock) ∧ (∀ x ∈ es.toList, IsKey .string x.key) ∧ ∀ (s : ByteArray) v, (∃ x ∈ es.toList, x.key = .string s ∧ x.val = v) ↔ (s, v) ∈ L
theorem FunAt.of_heap {w w' : World} {b : Nat} {S : List (ByteArray × Value)} (h : FunAt w b S) (e : w'.heap[b]? = w.heap[b]?) : FunAt w' b S := by
  obtain ⟨es, clock, hb, h1, h2⟩ := h
  exact ⟨es, clock, e.trans hb, h1, h2⟩
theorem FunAt.lt {w : World} {b : Nat} {S : List (ByteArray × Value)} (h : FunAt w b S) : b < w.heap.size := by
  obtain ⟨es, clock, hb, -⟩ := h
  exact (Array.getElem?_eq_some_iff.1 hb).1
theorem FunAt.new {w w' : World} {b : Nat} {S : List (ByteArray × Value)} (h : FunAt w b S) (n : New w w') : FunAt w' b S := h.of_heap (n.block b h.lt (fun x => x))
theorem FunAt.made (w : World) : FunAt (w.alloc (.map #[] 0)) w.heap.size [] :=
  ⟨#[], 0, (MapKept.heap_alloc w _).1, by simp, by simp⟩
theorem fkey_is (s : ByteArray) : IsKey .string (.string s) := by simp [IsKey]
theorem Mod.setObjF {w : World} {b : Nat} (o : Obj) : Mod (· = b) w { w with heap := w.heap.setIfInBounds b o } :=
  ⟨rfl, rfl, rfl, by simp, fun k hk hn => by simp [Ne.symm hn]⟩
theorem FunAt.update {P : Program} {w : World} {b : Nat} {S : List (ByteArray × Value)} {t k e : TypeId} (h : FunAt w b S) (ht : P.underlying t = some (.map k e)) (hk : P.underlying k = some .string) (s : ByteArray) (v : Value) (hn : ∀ v, (s, v) ∉ S) :
    ∃ w', (Instr.mapUpdate t (.map (some b)) (.string s) v).run P w = .ok () w' ∧ FunAt w' b ((s, v) :: S) ∧ Mod (· = b) w w' := by
  obtain ⟨es, clock, hb, h1, h2⟩ := h
  rcases findNow_spec (fkey_is s) es.toList 0 h1 with ⟨f1, f2⟩ | ⟨j, x, f1, f2, f3⟩
  · refine ⟨_, by simp [Instr.mapUpdate, run_underlying ht, MapKept.run_getObj_map hb, MapKept.run_checkKey hk (fkey_is s), MapKept.run_findKey hk f1, MapKept.run_setObj_map _ hb, Result.andThen]; rfl, ⟨_, _, (MapKept.heap_set hb).1, ?_, ?_⟩, Mod.setObjF _⟩
    · intro x hx
      simp only [Array.toList_push, List.mem_append, List.mem_singleton] at hx
      rcases hx with hx | rfl
      · exact h1 x hx
      · exact fkey_is s
    · intro s' v'
      simp only [Array.toList_push, List.mem_append, List.mem_cons, List.not_mem_nil, or_false, Prod.mk.injEq]
      constructor
      · rintro ⟨x, hx | rfl, e1, e2⟩
        · exact .inr ((h2 s' v').1 ⟨x, hx, e1, e2⟩)
        · simp at e1 e2
          exact .inl ⟨e1.symm, e2.symm⟩
      · rintro (⟨rfl, rfl⟩ | hs)
        · exact ⟨_, .inr rfl, rfl, rfl⟩
        · obtain ⟨x, hx, e1, e2⟩ := (h2 s' v').2 hs
          exact ⟨x, .inl hx, e1, e2⟩
  · have hx := List.mem_of_getElem? f2
    exact absurd ((h2 s x.val).1 ⟨x, hx, f3, rfl⟩) (hn _)
end Go.Proofs.YtbgmkplpolgebaaGreatDoor

namespace Go.Proofs.YtbgmkplpolgebaaGreatDoor
set_option linter.unusedSimpArgs false
set_option linter.unusedVariables false
open Go.RowKit Go.Shelf

def pXt : ByteArray := ⟨#[120, 116]⟩
def pDn : ByteArray := ⟨#[100, 110]⟩
def pTr : ByteArray := ⟨#[116, 114]⟩
def pWs : ByteArray := ⟨#[119, 115]⟩
def pPe : ByteArray := ⟨#[120, 46, 112, 101]⟩
def pSo : ByteArray := ⟨#[115, 111]⟩
def listF (x : Nat) : Value := .func (.func 71) #[] #[.pointer (some ⟨x, 0, none⟩)]
def partsF (x y : Nat) : List (ByteArray × Value) := [(pSo, .func (.func 81) #[] #[]), (pPe, .func (.func 78) #[] #[]), (pWs, listF y), (pTr, listF x), (pDn, .func (.func 75) #[] #[]), (pXt, .func (.func 74) #[] #[])]
theorem Mod.newOfM {S : Nat → Prop} {w w' : World} (hm : Mod S w w') (hs : ∀ k, k < w.heap.size → ¬ S k) : New w w' :=
  ⟨hm.os, hm.tape, hm.output, hm.size, fun k hk _ => hm.block k hk (hs k hk)⟩
theorem list_any (fn0 : Fn) (w : World) : Calls Tryz.prog 70 #[.func fn0 #[] #[]] w fun e w' => e = .returned (listF w.heap.size) ∧ w' = w.alloc (.cells #[.func fn0 #[] #[]] 97) := by
  have hmf : ∀ (fn : Fn) (first cap : Array Value) (w : World), (Instr.makeFunc fn first cap).run Tryz.prog w = .ok (.func fn first cap) w := fun _ _ _ _ => rfl
  go_enter Tryz.func70, Tryz.ntmps70
  go_wp2
  go_ret
  exact ⟨rfl, rfl⟩
set_option maxRecDepth 100000 in
set_option maxHeartbeats 1000000 in
theorem parts_any (w : World) : Calls Tryz.prog 26 #[] w fun e w' => ∃ b x y, e = .returned (.map (some b)) ∧ FunAt w' b (partsF x y) ∧ Blk w' x #[.func (.func 76) #[] #[]] 97 ∧ Blk w' y #[.func (.func 77) #[] #[]] 97 ∧ New w w' := by
  have F0 := FunAt.made w
  obtain ⟨wa, ua, Fa, Ma⟩ := F0.update Tryz.underlying54 Tryz.underlying9 pXt (.func (.func 74) #[] #[]) (by simp)
  obtain ⟨wb, ub, Fb, Mb⟩ := Fa.update Tryz.underlying54 Tryz.underlying9 pDn (.func (.func 75) #[] #[]) (by
    intro v q
    simp [pXt, pDn] at q)
  have n1 : New wb (wb.alloc (.cells #[.func (.func 76) #[] #[]] 97)) := (Mod.refl _ _).alloc _
  have B1 := Blk.new wb #[.func (.func 76) #[] #[]] 97
  obtain ⟨wc, uc, Fc, Mc⟩ := (Fb.new n1).update Tryz.underlying54 Tryz.underlying9 pTr (listF wb.heap.size) (by
    intro v q
    simp [pXt, pDn, pTr] at q)
  have s1 : w.heap.size + 1 ≤ wb.heap.size := Nat.le_trans (Nat.le_trans (by simp) Ma.size) Mb.size
  have B2 := Mc.blk B1 (by omega)
  have n2 : New wc (wc.alloc (.cells #[.func (.func 77) #[] #[]] 97)) := (Mod.refl _ _).alloc _
  have B3 := New.blk n2 B2
  have C1 := Blk.new wc #[.func (.func 77) #[] #[]] 97
  have s2 : wb.heap.size + 1 ≤ wc.heap.size := Nat.le_trans (by simp) Mc.size
  obtain ⟨wd, ud, Fd, Md⟩ := (Fc.new n2).update Tryz.underlying54 Tryz.underlying9 pWs (listF wc.heap.size) (by
    intro v q
    simp [pXt, pDn, pTr, pWs] at q)
  have B4 := Md.blk B3 (by omega)
  have C2 := Md.blk C1 (by omega)
  obtain ⟨we, ue, Fe, Me⟩ := Fd.update Tryz.underlying54 Tryz.underlying9 pPe (.func (.func 78) #[] #[]) (by
    intro v q
    simp [pXt, pDn, pTr, pWs, pPe] at q)
  obtain ⟨wf, uf, Ff, Mf⟩ := Fe.update Tryz.underlying54 Tryz.underlying9 pSo (.func (.func 81) #[] #[]) (by
    intro v q
    simp [pXt, pDn, pTr, pWs, pPe, pSo] at q)
  have HF := hid Ff
  have HB := hid (Mf.blk (Me.blk B4 (by omega)) (by omega))
  have HC := hid (Mf.blk (Me.blk C2 (by omega)) (by omega))
  have HN : Hid (New w wf) := hid ((((((((((Mod.refl (fun k => k = w.heap.size) w).alloc _).trans Ma).trans Mb).alloc _).trans Mc).alloc _).trans Md).trans Me).trans Mf |>.newOfM (fun k hk q => by omega))
  unfold pXt at ua
  unfold pDn at ub
  unfold pTr at uc
  unfold pWs at ud
  unfold pPe at ue
  unfold pSo at uf
  have hmm := @run_makeMap Tryz.prog
  clear F0 Fa Fb Fc Fd Fe Ff Ma Mb Mc Md Me Mf n1 n2 B1 B2 B3 B4 C1 C2 s1 s2
  have HL3 := hid (list_any (.func 76) wb)
  have HL4 := hid (list_any (.func 77) wc)
  go_enter Tryz.func26, Tryz.ntmps26
  go_wp2_with fail
  refine HL3.out.mono ?_
  rintro e w3 ⟨rfl, rfl⟩
  go_wp2_with fail
  refine HL4.out.mono ?_
  rintro e w3 ⟨rfl, rfl⟩
  go_wp2
  go_ret
  exact ⟨_, _, _, rfl, HF.out, HB.out, HC.out, HN.out⟩
theorem FunAt.hit1 {P : Program} {w : World} {b : Nat} {S : List (ByteArray × Value)} {t k e : TypeId} (h : FunAt w b S) (ht : P.underlying t = some (.map k e)) (hk : P.underlying k = some .string) {s : ByteArray} {v : Value} (hv : (s, v) ∈ S) (hu : ∀ v', (s, v') ∈ S → v' = v) :
    (Instr.lookup t (.map (some b)) (.string s) false).run P w = .ok v w := by
  obtain ⟨es, clock, hb, h1, h2⟩ := h
  rcases MapKept.findNow_spec (fkey_is s) es.toList 0 h1 with ⟨f1, f2⟩ | ⟨j, x, f1, f2, f3⟩
  · obtain ⟨x, hx, e1, e2⟩ := (h2 s v).2 hv
    exact absurd e1 (f2 x hx)
  · have hx := List.mem_of_getElem? f2
    have hs : x.val = v := hu _ ((h2 s x.val).1 ⟨x, hx, f3, rfl⟩)
    simp [Instr.lookup, run_underlying ht, MapKept.run_getObj_map hb, MapKept.run_checkKey hk (fkey_is s), MapKept.run_findKey hk f1, Result.andThen, hs]
theorem FunAt.miss1 {P : Program} {w : World} {b : Nat} {S : List (ByteArray × Value)} {t k e : TypeId} (h : FunAt w b S) (ht : P.underlying t = some (.map k e)) (hk : P.underlying k = some .string) {z : Value} (hz : (zeroValue e).run P w = .ok z w) {s : ByteArray} (hv : ∀ v, (s, v) ∉ S) :
    (Instr.lookup t (.map (some b)) (.string s) false).run P w = .ok z w := by
  obtain ⟨es, clock, hb, h1, h2⟩ := h
  rcases MapKept.findNow_spec (fkey_is s) es.toList 0 h1 with ⟨f1, f2⟩ | ⟨j, x, f1, f2, f3⟩
  · simp [Instr.lookup, run_underlying ht, MapKept.run_getObj_map hb, MapKept.run_checkKey hk (fkey_is s), MapKept.run_findKey hk f1, hz, Result.andThen]
  · have hx := List.mem_of_getElem? f2
    exact absurd ((h2 s x.val).1 ⟨x, hx, f3, rfl⟩) (hv _)
theorem plook_pXt {w : World} {b x y : Nat} (h : FunAt w b (partsF x y)) : (Instr.lookup 54 (.map (some b)) (.string pXt) false).run Tryz.prog w = .ok (.func (.func 74) #[] #[]) w :=
  h.hit1 Tryz.underlying54 Tryz.underlying9 (by simp [partsF]) (fun v q => by
    simp [partsF, pXt, pDn, pTr, pWs, pPe, pSo] at q
    exact q)
theorem plook_pDn {w : World} {b x y : Nat} (h : FunAt w b (partsF x y)) : (Instr.lookup 54 (.map (some b)) (.string pDn) false).run Tryz.prog w = .ok (.func (.func 75) #[] #[]) w :=
  h.hit1 Tryz.underlying54 Tryz.underlying9 (by simp [partsF]) (fun v q => by
    simp [partsF, pXt, pDn, pTr, pWs, pPe, pSo] at q
    exact q)
theorem plook_pTr {w : World} {b x y : Nat} (h : FunAt w b (partsF x y)) : (Instr.lookup 54 (.map (some b)) (.string pTr) false).run Tryz.prog w = .ok (listF x) w :=
  h.hit1 Tryz.underlying54 Tryz.underlying9 (by simp [partsF]) (fun v q => by
    simp [partsF, pXt, pDn, pTr, pWs, pPe, pSo] at q
    exact q)
theorem plook_pWs {w : World} {b x y : Nat} (h : FunAt w b (partsF x y)) : (Instr.lookup 54 (.map (some b)) (.string pWs) false).run Tryz.prog w = .ok (listF y) w :=
  h.hit1 Tryz.underlying54 Tryz.underlying9 (by simp [partsF]) (fun v q => by
    simp [partsF, pXt, pDn, pTr, pWs, pPe, pSo] at q
    exact q)
theorem plook_pPe {w : World} {b x y : Nat} (h : FunAt w b (partsF x y)) : (Instr.lookup 54 (.map (some b)) (.string pPe) false).run Tryz.prog w = .ok (.func (.func 78) #[] #[]) w :=
  h.hit1 Tryz.underlying54 Tryz.underlying9 (by simp [partsF]) (fun v q => by
    simp [partsF, pXt, pDn, pTr, pWs, pPe, pSo] at q
    exact q)
theorem plook_pSo {w : World} {b x y : Nat} (h : FunAt w b (partsF x y)) : (Instr.lookup 54 (.map (some b)) (.string pSo) false).run Tryz.prog w = .ok (.func (.func 81) #[] #[]) w :=
  h.hit1 Tryz.underlying54 Tryz.underlying9 (by simp [partsF]) (fun v q => by
    simp [partsF, pXt, pDn, pTr, pWs, pPe, pSo] at q
    exact q)
end Go.Proofs.YtbgmkplpolgebaaGreatDoor

namespace Go.Proofs.YtbgmkplpolgebaaGreatDoor
set_option linter.unusedSimpArgs false
set_option linter.unusedVariables false
open Go.RowKit Go.Shelf

/-- What a reader holds. -/
structure RdM where
  old : ByteArray
  new : ByteArray
  name : ByteArray
  tr : Value
  pe : Value
  ws : Value
  on : Value
  named : Bool
  only : Bool
def rdRow (r : RdM) : Array Value := #[.string r.old, .string r.new, .string r.name, r.tr, r.pe, r.ws, r.on, .bool r.named, .bool r.only]
def RdOut (B : Nat) (w : World) : Except Int RdM → Ending → World → Prop
  | .ok r, e, w' => e = .returned (.tuple #[]) ∧ Blk w' B (rdRow r) 49 ∧ Mod (fun k => k = B) w w'
  | .error k, e, w' => e = .panicked (toldM k) ∧ Mod (fun k => k = B) w w'
theorem RdOut.no {B : Nat} {w w' : World} {x : Except Int RdM} {k : Int} (h : x = .error k) (m : Mod (fun k => k = B) w w') : RdOut B w x (.panicked (toldM k)) w' := by subst h; exact ⟨rfl, m⟩
theorem RdOut.yes {B : Nat} {w w' : World} {x : Except Int RdM} {r : RdM} (h : x = .ok r) (hb : Blk w' B (rdRow r) 49) (m : Mod (fun k => k = B) w w') : RdOut B w x (.returned (.tuple #[])) w' := by subst h; exact ⟨rfl, hb, m⟩
def dnR (r : RdM) (s : List UInt8) : Except Int RdM := match loose s with
  | none => .error 2
  | some x => if 100 < x.length then .error 2 else if r.named then .error 6 else .ok { r with name := ⟨x.toArray⟩, named := true }
set_option maxRecDepth 100000 in
set_option maxHeartbeats 4000000 in
theorem dn_any (B : Nat) (r : RdM) (s : ByteArray) (w : World) (hb : Blk w B (rdRow r) 49) (hs : s.size ≤ 4000000) :
    Calls Tryz.prog 75 #[.pointer (some ⟨B, 0, none⟩), .string s] w fun e w' => RdOut B w (dnR r s.data.toList) e w' := by
  have HB := hid hb
  have HUN := hid (unescaped_any s w hs)
  obtain ⟨X, hX⟩ : ∃ X, X = dnR r s.data.toList := ⟨_, rfl⟩
  rw [← hX]
  unfold dnR at hX
  have HXX := hid hX
  clear hb hX
  cases hl : loose s.data.toList with
  | none =>
    rw [hl, hexR] at HUN
    have HX : Hid (X = .error 2) := hid (by rw [HXX.out, hl])
    clear hl HXX
    go_enter Tryz.func75, Tryz.ntmps75
    go_wp2_with fail
    refine HUN.out.mono ?_
    rintro e w1 ⟨rfl, n1⟩
    have N1 := hid (New.mod (S := fun k => k = B) n1)
    clear n1
    go_wp2
    exact ⟨rfl, RdOut.no HX.out N1.out⟩
  | some t =>
    rw [hl, hexR] at HUN
    rw [hl] at HXX
    clear hl
    have hTs : (⟨t.toArray⟩ : ByteArray).size = t.length := size_list t
    obtain ⟨T, hT⟩ : ∃ T : ByteArray, T = ⟨t.toArray⟩ := ⟨_, rfl⟩
    rw [← hT] at HUN hTs
    have HT := hid hT
    clear hT
    by_cases hlong : 100 < t.length
    · have HX : Hid (X = .error 2) := hid (by rw [HXX.out]; simp only; rw [if_pos hlong])
      have hd : decide ((T.size : Int) ≤ 100) = false := decide_eq_false (by omega)
      have hd2 : ¬ (T.size : Int) ≤ 100 := by omega
      clear hlong hTs HXX
      go_enter Tryz.func75, Tryz.ntmps75
      go_wp2_with fail
      refine HUN.out.mono ?_
      rintro e w1 ⟨rfl, n1⟩
      have N1 := hid (New.mod (S := fun k => k = B) n1)
      clear n1
      go_wp2_with fail
      refine (need_no 2 _).mono ?_
      rintro e w3 ⟨rfl, rfl⟩
      go_wp2
      exact ⟨rfl, RdOut.no HX.out N1.out⟩
    · have hd : decide ((T.size : Int) ≤ 100) = true := decide_eq_true (by omega)
      have hd2 : (T.size : Int) ≤ 100 := by omega
      clear hTs
      cases hn : r.named with
      | true =>
        have HX : Hid (X = .error 6) := hid (by rw [HXX.out]; simp only; rw [if_neg hlong, if_pos hn])
        clear hlong HXX
        go_enter Tryz.func75, Tryz.ntmps75
        go_wp2_with fail
        refine HUN.out.mono ?_
        rintro e w1 ⟨rfl, n1⟩
        have N1 := hid (New.mod (S := fun k => k = B) n1)
        have B1 := hid (n1.blk HB.out)
        have b7 : w1.cell? ⟨B, 7, none⟩ = some (.bool r.named) := B1.out.cellv 7 rfl
        rw [hn] at b7
        clear n1
        go_wp2_with fail
        refine (need_yes 2 _).mono ?_
        rintro e w3 ⟨rfl, rfl⟩
        go_wp2_with fail
        refine (need_no 6 _).mono ?_
        rintro e w3 ⟨rfl, rfl⟩
        go_wp2
        exact ⟨rfl, RdOut.no HX.out N1.out⟩
      | false =>
        have HX : Hid (X = .ok { r with name := T, named := true }) := hid (by rw [HXX.out]; simp only; rw [if_neg hlong, if_neg (by rw [hn]; decide), HT.out])
        clear hlong HXX
        go_enter Tryz.func75, Tryz.ntmps75
        go_wp2_with fail
        refine HUN.out.mono ?_
        rintro e w1 ⟨rfl, n1⟩
        have N1 := hid (New.mod (S := fun k => k = B) n1)
        have B1 := hid (n1.blk HB.out)
        have b2 : w1.cell? ⟨B, 2, none⟩ = some (.string r.name) := B1.out.cellv 2 rfl
        have b7 : w1.cell? ⟨B, 7, none⟩ = some (.bool r.named) := B1.out.cellv 7 rfl
        have bl := B1.out.lt
        have bf := B1.out.frz
        rw [hn] at b7
        clear n1
        go_wp2_with fail
        refine (need_yes 2 _).mono ?_
        rintro e w3 ⟨rfl, rfl⟩
        go_wp2_with fail
        refine (need_yes 6 _).mono ?_
        rintro e w3 ⟨rfl, rfl⟩
        go_wp2
        go_end0
        refine RdOut.yes HX.out (((B1.out.set 2 (.string T)).set 7 (.bool true)).row rfl) ?_
        exact Mod.set (Mod.set N1.out ⟨B, 2, none⟩ _ (.inl rfl)) ⟨B, 7, none⟩ _ (.inl rfl)
end Go.Proofs.YtbgmkplpolgebaaGreatDoor

namespace Go.Proofs.YtbgmkplpolgebaaGreatDoor
set_option linter.unusedSimpArgs false
set_option linter.unusedVariables false
open Go.RowKit Go.Shelf

def uOld : ByteArray := ⟨#[117, 114, 110, 58, 99, 118, 111, 58]⟩
def uNew : ByteArray := ⟨#[117, 114, 110, 58, 99, 118, 110, 58]⟩
def digU (p s : ByteArray) : ByteArray := ⟨(Lib.trimPrefix s.data.toList p.data.toList).toArray⟩
def isU (p s : ByteArray) : Bool := Lib.hasPrefix s.data.toList p.data.toList
theorem digU_le (p s : ByteArray) : (digU p s).size ≤ s.size := by
  unfold digU
  rw [size_list]
  unfold Lib.trimPrefix
  have : s.data.toList.length = s.size := by rw [Array.length_toList]; rfl
  split <;> simp <;> omega
def tO (r : RdM) (s : ByteArray) : Except Int RdM :=
  if isU uOld s = true then if (digU uOld s).size ≠ 40 then .error 2 else match hexC (digU uOld s).data.toList with
    | none => .error 2
    | some x => if r.old.toList ≠ [] then .error 6 else .ok { r with old := ⟨x.toArray⟩ }
  else .ok r
def tN (r : RdM) (s : ByteArray) : Except Int RdM :=
  if isU uNew s = true then if (digU uNew s).size ≠ 64 then .error 2 else match hexC (digU uNew s).data.toList with
    | none => .error 2
    | some x => if r.new.toList ≠ [] then .error 6 else .ok { r with new := ⟨x.toArray⟩ }
  else .ok r
def topicR (r : RdM) (s : ByteArray) : Except Int RdM := match tO r s with
  | .error k => .error k
  | .ok r1 => tN r1 s
theorem topic_no {r : RdM} {s : ByteArray} {k : Int} (h : tO r s = .error k) : topicR r s = .error k := by unfold topicR; rw [h]
theorem topic_yes {r r1 : RdM} {s : ByteArray} (h : tO r s = .ok r1) : topicR r s = tN r1 s := by unfold topicR; rw [h]
set_option maxRecDepth 100000 in
set_option maxHeartbeats 4000000 in
theorem topic_any (B : Nat) (r : RdM) (s : ByteArray) (w : World) (hb : Blk w B (rdRow r) 49) (hs : s.size ≤ 65536) :
    Calls Tryz.prog 74 #[.pointer (some ⟨B, 0, none⟩), .string s] w fun e w' => RdOut B w (topicR r s) e w' := by
  have HB0 := hid (hb.alloc (.cells #[.string ⟨#[117, 114, 110, 58, 99, 118, 111, 58]⟩, .string ⟨#[117, 114, 110, 58, 99, 118, 110, 58]⟩] 9))
  have HS0 := hid (Blk.new w #[.string ⟨#[117, 114, 110, 58, 99, 118, 111, 58]⟩, .string ⟨#[117, 114, 110, 58, 99, 118, 110, 58]⟩] 9)
  have HM0 : Hid (Mod (fun k => k = B) w (w.alloc (.cells #[.string ⟨#[117, 114, 110, 58, 99, 118, 111, 58]⟩, .string ⟨#[117, 114, 110, 58, 99, 118, 110, 58]⟩] 9))) := hid ((Mod.refl _ _).alloc _)
  have hBw := hb.lt
  obtain ⟨X, hX⟩ : ∃ X, X = topicR r s := ⟨_, rfl⟩
  clear hb
  go_enter Tryz.func74, Tryz.ntmps74
  go_wp2_with fail
  go_loopw [13] (fun x wr => ∃ (r1 : RdM), Blk wr B (rdRow r1) 49 ∧ Mod (fun k => k = B) w wr ∧ Blk wr w.heap.size #[.string ⟨#[117, 114, 110, 58, 99, 118, 111, 58]⟩, .string ⟨#[117, 114, 110, 58, 99, 118, 110, 58]⟩] 9 ∧ ((x = .int .i64 0 ∧ r1 = r) ∨ (x = .int .i64 1 ∧ tO r s = .ok r1) ∨ (x = .int .i64 2 ∧ topicR r s = .ok r1))) (fun x _ => 2 - (intOf x).toNat)
  case atStart => exact ⟨r, HB0.out, HM0.out, HS0.out, .inl ⟨rfl, rfl⟩⟩
  case round =>
    clear HB0 HS0 HM0 hX X
    obtain ⟨r1, hb, hm, hs0, hk⟩ := hrel
    have HB := hid hb; have HM := hid hm; have HS := hid hs0
    have hBr := hb.lt
    have hSr := hs0.lt
    clear hb hm hs0
    rcases hk with ⟨rfl, hr⟩ | ⟨rfl, hr⟩ | ⟨rfl, hr⟩
    · have HR := hid hr
      clear hr
      have c0 : wr.cell? ⟨w.heap.size, 0, none⟩ = some (.string ⟨#[117, 114, 110, 58, 99, 118, 111, 58]⟩) := HS.out.cellv 0 rfl
      have HTT : Hid (∀ k, tO r1 s = .error k → topicR r s = .error k) := hid ((fun k q => topic_no (by rw [← HR.out]; exact q)))
      cases hp : isU uOld s with
      | false =>
        have HCP : Hid (∀ W, Calls Tryz.prog 22 #[.string s, .string ⟨#[117, 114, 110, 58, 99, 118, 111, 58]⟩] W fun e w' => e = .returned (.tuple #[.string (digU uOld s), .bool false]) ∧ W = w') := hid (fun W => (Tryz.strings_CutPrefix s uOld W).mono (fun e w' ⟨h1, h2⟩ => ⟨by rw [h1]; unfold isU at hp; rw [hp]; rfl, h2.symm⟩))
        have HT : Hid (tO r1 s = .ok r1) := hid (by unfold tO; rw [if_neg (by rw [hp]; decide)])
        clear hp
        go_wp2_with fail
        refine (HCP.out _).mono ?_
        rintro e w3 ⟨rfl, rfl⟩
        go_wp2_with fail
        exact ⟨⟨r1, HB.out, HM.out, HS.out, .inr (.inl ⟨rfl, by rw [← HR.out]; exact HT.out⟩)⟩, by simp [intOf]⟩
      | true =>
        have HCP : Hid (∀ W, Calls Tryz.prog 22 #[.string s, .string ⟨#[117, 114, 110, 58, 99, 118, 111, 58]⟩] W fun e w' => e = .returned (.tuple #[.string (digU uOld s), .bool true]) ∧ W = w') := hid (fun W => (Tryz.strings_CutPrefix s uOld W).mono (fun e w' ⟨h1, h2⟩ => ⟨by rw [h1]; unfold isU at hp; rw [hp]; rfl, h2.symm⟩))
        have HT : Hid (tO r1 s = (if (digU uOld s).size ≠ 40 then .error 2 else match hexC (digU uOld s).data.toList with | none => .error 2 | some x => if r1.old.toList ≠ [] then .error 6 else .ok { r1 with old := ⟨x.toArray⟩ })) := hid (by unfold tO; rw [if_pos hp])
        clear hp
        have hDs := digU_le uOld s
        have HHX := hid (fun W (q : (digU uOld s).size ≤ 65536) => hexed_any (digU uOld s) W q)
        obtain ⟨D, hD⟩ : ∃ D, D = digU uOld s := ⟨_, rfl⟩
        rw [← hD] at HT HCP HHX hDs
        clear hD
        by_cases hsz : D.size = 40
        · have hb1 : ((D.size : Int) == 40) = true := by rw [beq_iff_eq]; omega
          rw [if_neg (by omega)] at HT
          cases hx : hexC D.data.toList with
          | none =>
            rw [hx] at HT HHX
            rw [hexR] at HHX
            have HHX2 := hid (fun W => HHX.out W (by omega))
            clear HHX hsz hx
            go_wp2_with fail
            refine (HCP.out _).mono ?_
            rintro e w3 ⟨rfl, rfl⟩
            go_wp2_with fail
            refine (need_yes 2 _).mono ?_
            rintro e w3 ⟨rfl, rfl⟩
            go_wp2_with fail
            refine (HHX2.out _).mono ?_
            rintro e w4 ⟨rfl, n4⟩
            have M4 := hid (Mod.trans HM.out (New.mod n4))
            clear n4
            go_wp2
            exact ⟨rfl, RdOut.no (HTT.out _ HT.out) M4.out⟩
          | some t =>
            rw [hx] at HT HHX
            rw [hexR] at HHX
            have HHX2 := hid (fun W => HHX.out W (by omega))
            obtain ⟨X, hX⟩ : ∃ X : ByteArray, X = ⟨t.toArray⟩ := ⟨_, rfl⟩
            simp only [← hX] at HT HHX2
            clear HHX hsz hx hX
            cases ho : r1.old.toList == [] with
            | false =>
              have HE : Hid (tO r1 s = .error 6) := hid (by rw [HT.out, if_pos (by rw [beq_eq_false_iff_ne] at ho; exact ho)])
              clear HT
              go_wp2_with fail
              refine (HCP.out _).mono ?_
              rintro e w3 ⟨rfl, rfl⟩
              go_wp2_with fail
              refine (need_yes 2 _).mono ?_
              rintro e w3 ⟨rfl, rfl⟩
              go_wp2_with fail
              refine (HHX2.out _).mono ?_
              rintro e w4 ⟨rfl, n4⟩
              have M4 := hid (Mod.trans HM.out (New.mod n4))
              have B4 := hid (n4.blk HB.out)
              have b4 : w4.cell? ⟨B, 0, none⟩ = some (.string r1.old) := B4.out.cellv 0 rfl
              clear n4
              go_wp2_with fail
              refine (need_no 6 _).mono ?_
              rintro e w5 ⟨rfl, rfl⟩
              go_wp2
              exact ⟨rfl, RdOut.no (HTT.out _ HE.out) M4.out⟩
            | true =>
              have HE : Hid (tO r1 s = .ok { r1 with old := X }) := hid (by rw [HT.out, if_neg (by rw [beq_iff_eq] at ho; rw [ho]; exact fun q => q rfl)])
              clear HT
              go_wp2_with fail
              refine (HCP.out _).mono ?_
              rintro e w3 ⟨rfl, rfl⟩
              go_wp2_with fail
              refine (need_yes 2 _).mono ?_
              rintro e w3 ⟨rfl, rfl⟩
              go_wp2_with fail
              refine (HHX2.out _).mono ?_
              rintro e w4 ⟨rfl, n4⟩
              have M4 := hid (Mod.trans HM.out (New.mod n4))
              have B4 := hid (n4.blk HB.out)
              have S4 := hid (n4.blk HS.out)
              have b4 : w4.cell? ⟨B, 0, none⟩ = some (.string r1.old) := B4.out.cellv 0 rfl
              have bl := B4.out.lt
              have bf := B4.out.frz 0
              clear n4
              go_wp2_with fail
              refine (need_yes 6 _).mono ?_
              rintro e w5 ⟨rfl, rfl⟩
              go_wp2_with fail
              have HT := HE
              exact ⟨⟨{ r1 with old := X }, (B4.out.set 0 (.string X)).row rfl, Mod.set M4.out ⟨B, 0, none⟩ _ (.inl rfl), S4.out.other (by show w.heap.size ≠ B; omega), .inr (.inl ⟨rfl, by rw [← HR.out]; exact HT.out⟩)⟩, by simp [intOf]⟩
        · have hb1 : ((D.size : Int) == 40) = false := by rw [beq_eq_false_iff_ne]; omega
          have HE : Hid (tO r1 s = .error 2) := hid (by rw [HT.out, if_pos hsz])
          clear HT HHX hsz
          go_wp2_with fail
          refine (HCP.out _).mono ?_
          rintro e w3 ⟨rfl, rfl⟩
          go_wp2_with fail
          refine (need_no 2 _).mono ?_
          rintro e w3 ⟨rfl, rfl⟩
          go_wp2
          exact ⟨rfl, RdOut.no (HTT.out _ HE.out) HM.out⟩
    · have HR := hid hr
      clear hr
      have c0 : wr.cell? ⟨w.heap.size, 1, none⟩ = some (.string ⟨#[117, 114, 110, 58, 99, 118, 110, 58]⟩) := HS.out.cellv 1 rfl
      have HTT : Hid (∀ k, tN r1 s = .error k → topicR r s = .error k) := hid ((fun k q => by rw [topic_yes HR.out]; exact q))
      cases hp : isU uNew s with
      | false =>
        have HCP : Hid (∀ W, Calls Tryz.prog 22 #[.string s, .string ⟨#[117, 114, 110, 58, 99, 118, 110, 58]⟩] W fun e w' => e = .returned (.tuple #[.string (digU uNew s), .bool false]) ∧ W = w') := hid (fun W => (Tryz.strings_CutPrefix s uNew W).mono (fun e w' ⟨h1, h2⟩ => ⟨by rw [h1]; unfold isU at hp; rw [hp]; rfl, h2.symm⟩))
        have HT : Hid (tN r1 s = .ok r1) := hid (by unfold tN; rw [if_neg (by rw [hp]; decide)])
        clear hp
        go_wp2_with fail
        refine (HCP.out _).mono ?_
        rintro e w3 ⟨rfl, rfl⟩
        go_wp2_with fail
        exact ⟨⟨r1, HB.out, HM.out, HS.out, .inr (.inr ⟨rfl, by rw [topic_yes HR.out]; exact HT.out⟩)⟩, by simp [intOf]⟩
      | true =>
        have HCP : Hid (∀ W, Calls Tryz.prog 22 #[.string s, .string ⟨#[117, 114, 110, 58, 99, 118, 110, 58]⟩] W fun e w' => e = .returned (.tuple #[.string (digU uNew s), .bool true]) ∧ W = w') := hid (fun W => (Tryz.strings_CutPrefix s uNew W).mono (fun e w' ⟨h1, h2⟩ => ⟨by rw [h1]; unfold isU at hp; rw [hp]; rfl, h2.symm⟩))
        have HT : Hid (tN r1 s = (if (digU uNew s).size ≠ 64 then .error 2 else match hexC (digU uNew s).data.toList with | none => .error 2 | some x => if r1.new.toList ≠ [] then .error 6 else .ok { r1 with new := ⟨x.toArray⟩ })) := hid (by unfold tN; rw [if_pos hp])
        clear hp
        have hDs := digU_le uNew s
        have HHX := hid (fun W (q : (digU uNew s).size ≤ 65536) => hexed_any (digU uNew s) W q)
        obtain ⟨D, hD⟩ : ∃ D, D = digU uNew s := ⟨_, rfl⟩
        rw [← hD] at HT HCP HHX hDs
        clear hD
        by_cases hsz : D.size = 64
        · have hb1 : ((D.size : Int) == 64) = true := by rw [beq_iff_eq]; omega
          rw [if_neg (by omega)] at HT
          cases hx : hexC D.data.toList with
          | none =>
            rw [hx] at HT HHX
            rw [hexR] at HHX
            have HHX2 := hid (fun W => HHX.out W (by omega))
            clear HHX hsz hx
            go_wp2_with fail
            refine (HCP.out _).mono ?_
            rintro e w3 ⟨rfl, rfl⟩
            go_wp2_with fail
            refine (need_yes 2 _).mono ?_
            rintro e w3 ⟨rfl, rfl⟩
            go_wp2_with fail
            refine (HHX2.out _).mono ?_
            rintro e w4 ⟨rfl, n4⟩
            have M4 := hid (Mod.trans HM.out (New.mod n4))
            clear n4
            go_wp2
            exact ⟨rfl, RdOut.no (HTT.out _ HT.out) M4.out⟩
          | some t =>
            rw [hx] at HT HHX
            rw [hexR] at HHX
            have HHX2 := hid (fun W => HHX.out W (by omega))
            obtain ⟨X, hX⟩ : ∃ X : ByteArray, X = ⟨t.toArray⟩ := ⟨_, rfl⟩
            simp only [← hX] at HT HHX2
            clear HHX hsz hx hX
            cases ho : r1.new.toList == [] with
            | false =>
              have HE : Hid (tN r1 s = .error 6) := hid (by rw [HT.out, if_pos (by rw [beq_eq_false_iff_ne] at ho; exact ho)])
              clear HT
              go_wp2_with fail
              refine (HCP.out _).mono ?_
              rintro e w3 ⟨rfl, rfl⟩
              go_wp2_with fail
              refine (need_yes 2 _).mono ?_
              rintro e w3 ⟨rfl, rfl⟩
              go_wp2_with fail
              refine (HHX2.out _).mono ?_
              rintro e w4 ⟨rfl, n4⟩
              have M4 := hid (Mod.trans HM.out (New.mod n4))
              have B4 := hid (n4.blk HB.out)
              have b4 : w4.cell? ⟨B, 1, none⟩ = some (.string r1.new) := B4.out.cellv 1 rfl
              clear n4
              go_wp2_with fail
              refine (need_no 6 _).mono ?_
              rintro e w5 ⟨rfl, rfl⟩
              go_wp2
              exact ⟨rfl, RdOut.no (HTT.out _ HE.out) M4.out⟩
            | true =>
              have HE : Hid (tN r1 s = .ok { r1 with new := X }) := hid (by rw [HT.out, if_neg (by rw [beq_iff_eq] at ho; rw [ho]; exact fun q => q rfl)])
              clear HT
              go_wp2_with fail
              refine (HCP.out _).mono ?_
              rintro e w3 ⟨rfl, rfl⟩
              go_wp2_with fail
              refine (need_yes 2 _).mono ?_
              rintro e w3 ⟨rfl, rfl⟩
              go_wp2_with fail
              refine (HHX2.out _).mono ?_
              rintro e w4 ⟨rfl, n4⟩
              have M4 := hid (Mod.trans HM.out (New.mod n4))
              have B4 := hid (n4.blk HB.out)
              have S4 := hid (n4.blk HS.out)
              have b4 : w4.cell? ⟨B, 1, none⟩ = some (.string r1.new) := B4.out.cellv 1 rfl
              have bl := B4.out.lt
              have bf := B4.out.frz 1
              clear n4
              go_wp2_with fail
              refine (need_yes 6 _).mono ?_
              rintro e w5 ⟨rfl, rfl⟩
              go_wp2_with fail
              have HT := HE
              exact ⟨⟨{ r1 with new := X }, (B4.out.set 1 (.string X)).row rfl, Mod.set M4.out ⟨B, 1, none⟩ _ (.inl rfl), S4.out.other (by show w.heap.size ≠ B; omega), .inr (.inr ⟨rfl, by rw [topic_yes HR.out]; exact HT.out⟩)⟩, by simp [intOf]⟩
        · have hb1 : ((D.size : Int) == 64) = false := by rw [beq_eq_false_iff_ne]; omega
          have HE : Hid (tN r1 s = .error 2) := hid (by rw [HT.out, if_pos hsz])
          clear HT HHX hsz
          go_wp2_with fail
          refine (HCP.out _).mono ?_
          rintro e w3 ⟨rfl, rfl⟩
          go_wp2_with fail
          refine (need_no 2 _).mono ?_
          rintro e w3 ⟨rfl, rfl⟩
          go_wp2
          exact ⟨rfl, RdOut.no (HTT.out _ HE.out) HM.out⟩
    · have HR := hid hr
      clear hr
      go_wp2
      go_end0
      exact RdOut.yes HR.out HB.out HM.out
end Go.Proofs.YtbgmkplpolgebaaGreatDoor
