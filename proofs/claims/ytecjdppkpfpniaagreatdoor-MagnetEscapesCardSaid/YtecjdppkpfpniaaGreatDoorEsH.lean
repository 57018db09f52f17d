/-
  The walk of parts (package magnet): the map of the functions that read a magnet's parts. No condition.
-/
import Derived.Test.YtecjdppkpfpniaaGreatDoorEsG
import Derived.Test.YtecjdppkpfpniaaGreatDoorLfm
namespace Go.Proofs.YtecjdppkpfpniaaGreatDoor
set_option linter.unusedSimpArgs false
set_option linter.unusedVariables false
open Go.RowKit Go.Shelf

def pXt : ByteArray := ⟨#[120, 116]⟩
def pDn : ByteArray := ⟨#[100, 110]⟩
def pTr : ByteArray := ⟨#[116, 114]⟩
def pWs : ByteArray := ⟨#[119, 115]⟩
def pPe : ByteArray := ⟨#[120, 46, 112, 101]⟩
def pSo : ByteArray := ⟨#[115, 111]⟩
def listF (x : Nat) : Value := .func (.func 106) #[] #[.pointer (some ⟨x, 0, none⟩)]
def partsF (x y : Nat) : List (ByteArray × Value) := [(pSo, .func (.func 115) #[] #[]), (pPe, .func (.func 112) #[] #[]), (pWs, listF y), (pTr, listF x), (pDn, .func (.func 109) #[] #[]), (pXt, .func (.func 108) #[] #[])]
theorem Mod.newOfM {S : Nat → Prop} {w w' : World} (hm : Mod S w w') (hs : ∀ k, k < w.heap.size → ¬ S k) : New w w' :=
  ⟨hm.os, hm.tape, hm.output, hm.size, fun k hk _ => hm.block k hk (hs k hk)⟩
theorem list_any (fn0 : Fn) (w : World) : Calls Tryz.prog 105 #[.func fn0 #[] #[]] w fun e w' => e = .returned (listF w.heap.size) ∧ w' = w.alloc (.cells #[.func fn0 #[] #[]] 129) := by
  have hmf : ∀ (fn : Fn) (first cap : Array Value) (w : World), (Instr.makeFunc fn first cap).run Tryz.prog w = .ok (.func fn first cap) w := fun _ _ _ _ => rfl
  go_enter Tryz.func105, Tryz.ntmps105
  go_wp2
  go_ret
  exact ⟨rfl, rfl⟩
set_option maxRecDepth 100000 in
set_option maxHeartbeats 1000000 in
theorem parts_any (w : World) : Calls Tryz.prog 41 #[] w fun e w' => ∃ b x y, e = .returned (.map (some b)) ∧ FunAt w' b (partsF x y) ∧ Blk w' x #[.func (.func 110) #[] #[]] 129 ∧ Blk w' y #[.func (.func 111) #[] #[]] 129 ∧ New w w' := by
  have F0 := FunAt.made w
  obtain ⟨wa, ua, Fa, Ma⟩ := F0.update Tryz.underlying71 Tryz.underlying9 pXt (.func (.func 108) #[] #[]) (by simp)
  obtain ⟨wb, ub, Fb, Mb⟩ := Fa.update Tryz.underlying71 Tryz.underlying9 pDn (.func (.func 109) #[] #[]) (by
    intro v q
    simp [pXt, pDn] at q)
  have n1 : New wb (wb.alloc (.cells #[.func (.func 110) #[] #[]] 129)) := (Mod.refl _ _).alloc _
  have B1 := Blk.new wb #[.func (.func 110) #[] #[]] 129
  obtain ⟨wc, uc, Fc, Mc⟩ := (Fb.new n1).update Tryz.underlying71 Tryz.underlying9 pTr (listF wb.heap.size) (by
    intro v q
    simp [pXt, pDn, pTr] at q)
  have s1 : w.heap.size + 1 ≤ wb.heap.size := Nat.le_trans (Nat.le_trans (by simp) Ma.size) Mb.size
  have B2 := Mc.blk B1 (by omega)
  have n2 : New wc (wc.alloc (.cells #[.func (.func 111) #[] #[]] 129)) := (Mod.refl _ _).alloc _
  have B3 := New.blk n2 B2
  have C1 := Blk.new wc #[.func (.func 111) #[] #[]] 129
  have s2 : wb.heap.size + 1 ≤ wc.heap.size := Nat.le_trans (by simp) Mc.size
  obtain ⟨wd, ud, Fd, Md⟩ := (Fc.new n2).update Tryz.underlying71 Tryz.underlying9 pWs (listF wc.heap.size) (by
    intro v q
    simp [pXt, pDn, pTr, pWs] at q)
  have B4 := Md.blk B3 (by omega)
  have C2 := Md.blk C1 (by omega)
  obtain ⟨we, ue, Fe, Me⟩ := Fd.update Tryz.underlying71 Tryz.underlying9 pPe (.func (.func 112) #[] #[]) (by
    intro v q
    simp [pXt, pDn, pTr, pWs, pPe] at q)
  obtain ⟨wf, uf, Ff, Mf⟩ := Fe.update Tryz.underlying71 Tryz.underlying9 pSo (.func (.func 115) #[] #[]) (by
    intro v q
    simp [pXt, pDn, pTr, pWs, pPe, pSo] at q)
  have HF := hid Ff
  have HB := hid (Mf.blk (Me.blk B4 (by omega)) (by omega))
  have HC := hid (Mf.blk (Me.blk C2 (by omega)) (by omega))
  have HN : Hid (New w wf) := hid ((((((((((Mod.refl (fun k => k = w.heap.size) w).alloc _).trans Ma).trans Mb).alloc _).trans Mc).alloc _).trans Md).trans Me).trans Mf |>.newOfM (fun k hk q => by omega))
  unfold pXt at ua
  unfold pDn at ub
  unfold pTr at uc
  unfold pWs at ud
  unfold pPe at ue
  unfold pSo at uf
  have hmm := @run_makeMap Tryz.prog
  clear F0 Fa Fb Fc Fd Fe Ff Ma Mb Mc Md Me Mf n1 n2 B1 B2 B3 B4 C1 C2 s1 s2
  have HL3 := hid (list_any (.func 110) wb)
  have HL4 := hid (list_any (.func 111) wc)
  go_enter Tryz.func41, Tryz.ntmps41
  go_wp2_with fail
  refine HL3.out.mono ?_
  rintro e w3 ⟨rfl, rfl⟩
  go_wp2_with fail
  refine HL4.out.mono ?_
  rintro e w3 ⟨rfl, rfl⟩
  go_wp2
  go_ret
  exact ⟨_, _, _, rfl, HF.out, HB.out, HC.out, HN.out⟩
theorem FunAt.hit1 {P : Program} {w : World} {b : Nat} {S : List (ByteArray × Value)} {t k e : TypeId} (h : FunAt w b S) (ht : P.underlying t = some (.map k e)) (hk : P.underlying k = some .string) {s : ByteArray} {v : Value} (hv : (s, v) ∈ S) (hu : ∀ v', (s, v') ∈ S → v' = v) :
    (Instr.lookup t (.map (some b)) (.string s) false).run P w = .ok v w := by
  obtain ⟨es, clock, hb, h1, h2⟩ := h
  rcases MapKept.findNow_spec (fkey_is s) es.toList 0 h1 with ⟨f1, f2⟩ | ⟨j, x, f1, f2, f3⟩
  · obtain ⟨x, hx, e1, e2⟩ := (h2 s v).2 hv
    exact absurd e1 (f2 x hx)
  · have hx := List.mem_of_getElem? f2
    have hs : x.val = v := hu _ ((h2 s x.val).1 ⟨x, hx, f3, rfl⟩)
    simp [Instr.lookup, run_underlying ht, MapKept.run_getObj_map hb, MapKept.run_checkKey hk (fkey_is s), MapKept.run_findKey hk f1, Result.andThen, hs]
theorem FunAt.miss1 {P : Program} {w : World} {b : Nat} {S : List (ByteArray × Value)} {t k e : TypeId} (h : FunAt w b S) (ht : P.underlying t = some (.map k e)) (hk : P.underlying k = some .string) {z : Value} (hz : (zeroValue e).run P w = .ok z w) {s : ByteArray} (hv : ∀ v, (s, v) ∉ S) :
    (Instr.lookup t (.map (some b)) (.string s) false).run P w = .ok z w := by
  obtain ⟨es, clock, hb, h1, h2⟩ := h
  rcases MapKept.findNow_spec (fkey_is s) es.toList 0 h1 with ⟨f1, f2⟩ | ⟨j, x, f1, f2, f3⟩
  · simp [Instr.lookup, run_underlying ht, MapKept.run_getObj_map hb, MapKept.run_checkKey hk (fkey_is s), MapKept.run_findKey hk f1, hz, Result.andThen]
  · have hx := List.mem_of_getElem? f2
    exact absurd ((h2 s x.val).1 ⟨x, hx, f3, rfl⟩) (hv _)
theorem plook_pXt {w : World} {b x y : Nat} (h : FunAt w b (partsF x y)) : (Instr.lookup 71 (.map (some b)) (.string pXt) false).run Tryz.prog w = .ok (.func (.func 108) #[] #[]) w :=
  h.hit1 Tryz.underlying71 Tryz.underlying9 (by simp [partsF]) (fun v q => by
    simp [partsF, pXt, pDn, pTr, pWs, pPe, pSo] at q
    exact q)
theorem plook_pDn {w : World} {b x y : Nat} (h : FunAt w b (partsF x y)) : (Instr.lookup 71 (.map (some b)) (.string pDn) false).run Tryz.prog w = .ok (.func (.func 109) #[] #[]) w :=
  h.hit1 Tryz.underlying71 Tryz.underlying9 (by simp [partsF]) (fun v q => by
    simp [partsF, pXt, pDn, pTr, pWs, pPe, pSo] at q
    exact q)
theorem plook_pTr {w : World} {b x y : Nat} (h : FunAt w b (partsF x y)) : (Instr.lookup 71 (.map (some b)) (.string pTr) false).run Tryz.prog w = .ok (listF x) w :=
  h.hit1 Tryz.underlying71 Tryz.underlying9 (by simp [partsF]) (fun v q => by
    simp [partsF, pXt, pDn, pTr, pWs, pPe, pSo] at q
    exact q)
theorem plook_pWs {w : World} {b x y : Nat} (h : FunAt w b (partsF x y)) : (Instr.lookup 71 (.map (some b)) (.string pWs) false).run Tryz.prog w = .ok (listF y) w :=
  h.hit1 Tryz.underlying71 Tryz.underlying9 (by simp [partsF]) (fun v q => by
    simp [partsF, pXt, pDn, pTr, pWs, pPe, pSo] at q
    exact q)
theorem plook_pPe {w : World} {b x y : Nat} (h : FunAt w b (partsF x y)) : (Instr.lookup 71 (.map (some b)) (.string pPe) false).run Tryz.prog w = .ok (.func (.func 112) #[] #[]) w :=
  h.hit1 Tryz.underlying71 Tryz.underlying9 (by simp [partsF]) (fun v q => by
    simp [partsF, pXt, pDn, pTr, pWs, pPe, pSo] at q
    exact q)
theorem plook_pSo {w : World} {b x y : Nat} (h : FunAt w b (partsF x y)) : (Instr.lookup 71 (.map (some b)) (.string pSo) false).run Tryz.prog w = .ok (.func (.func 115) #[] #[]) w :=
  h.hit1 Tryz.underlying71 Tryz.underlying9 (by simp [partsF]) (fun v q => by
    simp [partsF, pXt, pDn, pTr, pWs, pPe, pSo] at q
    exact q)
end Go.Proofs.YtecjdppkpfpniaaGreatDoor
