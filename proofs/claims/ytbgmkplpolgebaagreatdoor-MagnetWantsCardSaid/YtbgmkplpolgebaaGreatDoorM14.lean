/-
  Several texts in one, in their build order. The walk of unescaped (package magnet). Condition: the text is small. The walks of Unescape and of its deferred closure (package magnet). No condition on the text. A map of strings to functions that a call has made: its look-up and its store. Over any program. No condition. The walk of parts (package magnet): the map of the functions that read a magnet's parts. No condition. The walks of the functions that read a magnet's topic and name (package magnet). Conditions: the reader lies as told; the text is small.
-/
import Derived.Test.YtbgmkplpolgebaaGreatDoorM12
import Derived.Test.YtbgmkplpolgebaaGreatDoorM13
import Derived.Test.YtbgmkplpolgebaaGreatDoorM1
import Derived.Maps.OwnOps
import Derived.MapKept
import Derived.Carry
namespace Go.Proofs.YtbgmkplpolgebaaGreatDoor
set_option linter.unusedSimpArgs false
set_option linter.unusedVariables false
open Go.RowKit Go.Shelf

theorem two_cut (s : ByteArray) {k : Nat} (h : k + 2 < s.size) : (s.extract (k + 1) (k + 3)).data.toList = [s[k + 1], s[k + 2]] := by
  rw [ByteArray.data_extract, Array.toList_extract, List.extract_eq_take_drop]
  rw [List.drop_eq_getElem_cons (by rw [Array.length_toList]; show k + 1 < s.size; omega), List.drop_eq_getElem_cons (by rw [Array.length_toList]; show k + 1 + 1 < s.size; omega), show k + 3 - (k + 1) = 2 by omega]
  rfl
set_option maxRecDepth 100000 in
set_option maxHeartbeats 4000000 in
theorem unescaped_any (s : ByteArray) (w : World) (hs : s.size ≤ 4000000) : Calls Tryz.prog 72 #[.string s] w fun e w' => e = hexR (loose s.data.toList) ∧ New w w' := by
  have hlen : s.data.toList.length = s.size := by rw [Array.length_toList]; rfl
  obtain ⟨X, hX⟩ : ∃ X, X = loose s.data.toList := ⟨_, rfl⟩
  rw [← hX]
  have HFR := hid (Bld.fresh w)
  have HN0 : Hid (New w (w.alloc (.cells #[.pointer none, .slice none 0 0] 138))) := hid ((Mod.refl _ _).alloc _)
  have HL0 : Hid ((loose (s.data.toList.drop 0)).map (([] : List UInt8) ++ ·) = X) := hid (by rw [List.drop_zero, hX]; cases loose s.data.toList <;> rfl)
  clear hX
  go_enter Tryz.func72, Tryz.ntmps72
  go_wp2_with fail
  go_loopw [4] (fun x wr => ∃ (k : Nat) (acc : List UInt8), x = .int .i64 k ∧ k ≤ s.size ∧ acc.length ≤ k ∧ Bld wr w.heap.size acc ∧ (loose (s.data.toList.drop k)).map (acc ++ ·) = X ∧ New w wr) (fun x _ => s.size - (intOf x).toNat)
  case atStart => exact ⟨0, [], rfl, by omega, by simp, HFR.out, HL0.out, HN0.out⟩
  case round =>
    clear HFR HN0 HL0
    obtain ⟨k, acc, rfl, hk, hac, hbl, hl, hn⟩ := hrel
    have HBL := hid hbl; have HN := hid hn; have HL := hid hl
    have hbw := hbl.lt
    clear hbl hn hl
    by_cases hlt : k < s.size
    · have hltI : (k : Int) < (s.size : Int) := by omega
      have HD := hid (drop_at s hlt)
      rw [HD.out] at HL
      have hk1 : IntKind.i64.wrap ((k : Int) + 1) = (k : Int) + 1 := by rw [IntKind.wrap_i64]; omega
      have hk2 : IntKind.i64.wrap ((k : Int) + 2) = (k : Int) + 2 := by rw [IntKind.wrap_i64]; omega
      by_cases hc : s[k] = 37
      · have e0 : ((s[k].toNat : Int) != 37) = false := by rw [hc]; rfl
        rw [hc] at HL
        clear hc
        by_cases h2 : s.size ≤ k + 2
        · have HXN := hid (loose_short HL.out (by rw [List.length_drop, hlen]; omega))
          have hge : decide ((k : Int) + 2 < (s.size : Int)) = false := decide_eq_false (by omega)
          have hge2 : ¬ (k : Int) + 2 < (s.size : Int) := by omega
          go_wp2_with fail
          refine (need_no 2 _).mono ?_
          rintro e w3 ⟨rfl, rfl⟩
          go_wp2
          exact ⟨rfl, by rw [HXN.out]; rfl, HN.out⟩
        · have hge : decide ((k : Int) + 2 < (s.size : Int)) = true := decide_eq_true (by omega)
          have hge2 : (k : Int) + 2 < (s.size : Int) := by omega
          have HD1 := hid (drop_at s (show k + 1 < s.size by omega)); have HD2 := hid (drop_at s (show k + 2 < s.size by omega))
          rw [HD1.out, HD2.out] at HL
          have hk3 : IntKind.i64.wrap ((k : Int) + 3) = (k : Int) + 3 := by rw [IntKind.wrap_i64]; omega
          have hk4 : IntKind.i64.wrap ((k : Int) + 2 + 1) = (k : Int) + 2 + 1 := by rw [IntKind.wrap_i64]; omega
          have pa : (0 : Int) ≤ (k : Int) + 1 := by omega
          have pb : (k : Int) + 1 ≤ (k : Int) + 3 := by omega
          have pc : (k : Int) + 3 ≤ (s.size : Int) := by omega
          have na : ((k : Int) + 1).toNat = k + 1 := by omega
          have nb : ((k : Int) + 3).toNat = k + 3 := by omega
          have HHX := hid (fun W => hexed_any (s.extract (k + 1) (k + 3)) W (by rw [ByteArray.size_extract]; omega))
          rw [two_cut s (by omega)] at HHX
          obtain ⟨CB, hCB⟩ : ∃ CB, CB = s.extract (k + 1) (k + 3) := ⟨_, rfl⟩
          cases hx : hexC [s[k + 1], s[k + 2]] with
          | none =>
            have HXN := hid (loose_bad HL.out hx)
            rw [hx, hexR] at HHX
            clear hx
            go_wp2_with fail
            refine (need_yes 2 _).mono ?_
            rintro e w3 ⟨rfl, rfl⟩
            go_wp2_with fail
            refine (HHX.out _).mono ?_
            rintro e w4 ⟨rfl, n4⟩
            have N4 := hid (HN.out.trans n4)
            clear n4
            go_wp2
            exact ⟨rfl, by rw [HXN.out]; rfl, N4.out⟩
          | some x =>
            have HST := hid (loose_step3 HL.out hx)
            have hxl : x.length = 1 := by
              rw [hexC_two] at hx
              split at hx
              · cases hx; rfl
              · cases hx
            rw [hx, hexR] at HHX
            have HWR := hid (fun W (q : Bld W w.heap.size acc) => write_any w.heap.size acc ⟨x.toArray⟩ W q (by rw [size_list]; omega))
            rw [show (⟨x.toArray⟩ : ByteArray).data.toList = x by simp] at HWR
            clear hx
            go_wp2_with fail
            refine (need_yes 2 _).mono ?_
            rintro e w3 ⟨rfl, rfl⟩
            go_wp2_with fail
            refine (HHX.out _).mono ?_
            rintro e w4 ⟨rfl, n4⟩
            have B4 := hid (HBL.out.new n4)
            have N4 := hid (HN.out.trans n4)
            clear n4
            go_wp2_with fail
            refine (HWR.out _ B4.out).mono ?_
            rintro e w5 ⟨rfl, b5, n5⟩
            have B5 := hid b5
            have N5 := hid (Wrote.new N4.out n5 (Nat.le_refl _))
            clear b5 n5
            go_wp2_with fail
            exact ⟨⟨k + 3, acc ++ x, by simp; omega, by omega, by simp; omega, B5.out, HST.out, N5.out⟩, by simp [intOf]; omega⟩
      · have e0 : ((s[k].toNat : Int) != 37) = true := by
          rw [bne_iff_ne]
          intro q
          exact hc (UInt8.toNat_inj.1 (by show s[k].toNat = 37; omega))
        have HST := hid (loose_step HL.out hc)
        clear hc
        go_wp2_with fail
        refine (byte_any w.heap.size acc s[k] _ HBL.out (by omega)).mono ?_
        rintro e w4 ⟨rfl, b4, n4⟩
        have B4 := hid b4
        have N4 := hid (Wrote.new HN.out n4 (Nat.le_refl _))
        clear b4 n4
        go_wp2_with fail
        exact ⟨⟨k + 1, acc ++ [s[k]], by simp, by omega, by simp; omega, B4.out, HST.out, N4.out⟩, by simp [intOf]; omega⟩
    · have hltI : ¬ (k : Int) < (s.size : Int) := by omega
      have HXS : Hid (X = some acc) := hid (by rw [← HL.out, List.drop_of_length_le (by omega), loose_nil]; simp)
      go_wp2_with fail
      refine (string_any w.heap.size acc _ HBL.out).mono ?_
      rintro e w4 ⟨rfl, b4, n4⟩
      have N4 := hid (Wrote.new HN.out n4 (Nat.le_refl _))
      clear b4 n4
      go_wp2
      go_ret
      exact ⟨by rw [HXS.out]; rfl, N4.out⟩
end Go.Proofs.YtbgmkplpolgebaaGreatDoor

namespace Go.Proofs.YtbgmkplpolgebaaGreatDoor
set_option linter.unusedSimpArgs false
set_option linter.unusedVariables false
open Go.RowKit Go.Shelf

end Go.Proofs.YtbgmkplpolgebaaGreatDoor

namespace Go.Proofs.YtbgmkplpolgebaaGreatDoor
set_option linter.unusedSimpArgs false
set_option linter.unusedVariables false
open Go.RowKit Go.MapKept

/-- Block b is a map; its entries are just those of L. -/
def FunAt (w : World) (b : Nat) (L : List (ByteArray × Value)) : Prop :=
  ∃ es clock, w.heap[b]? = some (.map es clock) ∧ (∀ x ∈ es.toList, IsKey .string x.key) ∧ ∀ (s : ByteArray) v, (∃ x ∈ es.toList, x.key = .string s ∧ x.val = v) ↔ (s, v) ∈ L
theorem FunAt.of_heap {w w' : World} {b : Nat} {S : List (ByteArray × Value)} (h : FunAt w b S) (e : w'.heap[b]? = w.heap[b]?) : FunAt w' b S := by
  obtain ⟨es, clock, hb, h1, h2⟩ := h
  exact ⟨es, clock, e.trans hb, h1, h2⟩
theorem FunAt.lt {w : World} {b : Nat} {S : List (ByteArray × Value)} (h : FunAt w b S) : b < w.heap.size := by
  obtain ⟨es, clock, hb, -⟩ := h
  exact (Array.getElem?_eq_some_iff.1 hb).1
theorem FunAt.new {w w' : World} {b : Nat} {S : List (ByteArray × Value)} (h : FunAt w b S) (n : New w w') : FunAt w' b S := h.of_heap (n.block b h.lt (fun x => x))
theorem FunAt.made (w : World) : FunAt (w.alloc (.map #[] 0)) w.heap.size [] :=
  ⟨#[], 0, (MapKept.heap_alloc w _).1, by simp, by simp⟩
theorem fkey_is (s : ByteArray) : IsKey .string (.string s) := by simp [IsKey]
theorem Mod.setObjF {w : World} {b : Nat} (o : Obj) : Mod (· = b) w { w with heap := w.heap.setIfInBounds b o } :=
  ⟨rfl, rfl, rfl, by simp, fun k hk hn => by simp [Ne.symm hn]⟩
theorem FunAt.update {P : Program} {w : World} {b : Nat} {S : List (ByteArray × Value)} {t k e : TypeId} (h : FunAt w b S) (ht : P.underlying t = some (.map k e)) (hk : P.underlying k = some .string) (s : ByteArray) (v : Value) (hn : ∀ v, (s, v) ∉ S) :
    ∃ w', (Instr.mapUpdate t (.map (some b)) (.string s) v).run P w = .ok () w' ∧ FunAt w' b ((s, v) :: S) ∧ Mod (· = b) w w' := by
  obtain ⟨es, clock, hb, h1, h2⟩ := h
  rcases findNow_spec (fkey_is s) es.toList 0 h1 with ⟨f1, f2⟩ | ⟨j, x, f1, f2, f3⟩
  · refine ⟨_, by simp [Instr.mapUpdate, run_underlying ht, MapKept.run_getObj_map hb, MapKept.run_checkKey hk (fkey_is s), MapKept.run_findKey hk f1, MapKept.run_setObj_map _ hb, Result.andThen]; rfl, ⟨_, _, (MapKept.heap_set hb).1, ?_, ?_⟩, Mod.setObjF _⟩
    · intro x hx
      simp only [Array.toList_push, List.mem_append, List.mem_singleton] at hx
      rcases hx with hx | rfl
      · exact h1 x hx
      · exact fkey_is s
    · intro s' v'
      simp only [Array.toList_push, List.mem_append, List.mem_cons, List.not_mem_nil, or_false, Prod.mk.injEq]
      constructor
      · rintro ⟨x, hx | rfl, e1, e2⟩
        · exact .inr ((h2 s' v').1 ⟨x, hx, e1, e2⟩)
        · simp at e1 e2
          exact .inl ⟨e1.symm, e2.symm⟩
      · rintro (⟨rfl, rfl⟩ | hs)
        · exact ⟨_, .inr rfl, rfl, rfl⟩
        · obtain ⟨x, hx, e1, e2⟩ := (h2 s' v').2 hs
          exact ⟨x, .inl hx, e1, e2⟩
  · have hx := List.mem_of_getElem? f2
    exact absurd ((h2 s x.val).1 ⟨x, hx, f3, rfl⟩) (hn _)
end Go.Proofs.YtbgmkplpolgebaaGreatDoor

namespace Go.Proofs.YtbgmkplpolgebaaGreatDoor
set_option linter.unusedSimpArgs false
set_option linter.unusedVariables false
open Go.RowKit Go.Shelf

def pXt : ByteArray := ⟨#[120, 116]⟩
def pDn : ByteArray := ⟨#[100, 110]⟩
def pTr : ByteArray := ⟨#[116, 114]⟩
def pWs : ByteArray := ⟨#[119, 115]⟩
def pPe : ByteArray := ⟨#[120, 46, 112, 101]⟩
def pSo : ByteArray := ⟨#[115, 111]⟩
def listF (x : Nat) : Value := .func (.func 71) #[] #[.pointer (some ⟨x, 0, none⟩)]
def partsF (x y : Nat) : List (ByteArray × Value) := [(pSo, .func (.func 81) #[] #[]), (pPe, .func (.func 78) #[] #[]), (pWs, listF y), (pTr, listF x), (pDn, .func (.func 75) #[] #[]), (pXt, .func (.func 74) #[] #[])]
theorem Mod.newOfM {S : Nat → Prop} {w w' : World} (hm : Mod S w w') (hs : ∀ k, k < w.heap.size → ¬ S k) : New w w' :=
  ⟨hm.os, hm.tape, hm.output, hm.size, fun k hk _ => hm.block k hk (hs k hk)⟩
theorem list_any (fn0 : Fn) (w : World) : Calls Tryz.prog 70 #[.func fn0 #[] #[]] w fun e w' => e = .returned (listF w.heap.size) ∧ w' = w.alloc (.cells #[.func fn0 #[] #[]] 97) := by
  have hmf : ∀ (fn : Fn) (first cap : Array Value) (w : World), (Instr.makeFunc fn first cap).run Tryz.prog w = .ok (.func fn first cap) w := fun _ _ _ _ => rfl
  go_enter Tryz.func70, Tryz.ntmps70
  go_wp2
  go_ret
  exact ⟨rfl, rfl⟩
set_option maxRecDepth 100000 in
set_option maxHeartbeats 1000000 in
theorem parts_any (w : World) : Calls Tryz.prog 26 #[] w fun e w' => ∃ b x y, e = .returned (.map (some b)) ∧ FunAt w' b (partsF x y) ∧ Blk w' x #[.func (.func 76) #[] #[]] 97 ∧ Blk w' y #[.func (.func 77) #[] #[]] 97 ∧ New w w' := by
  have F0 := FunAt.made w
  obtain ⟨wa, ua, Fa, Ma⟩ := F0.update Tryz.underlying54 Tryz.underlying9 pXt (.func (.func 74) #[] #[]) (by simp)
  obtain ⟨wb, ub, Fb, Mb⟩ := Fa.update Tryz.underlying54 Tryz.underlying9 pDn (.func (.func 75) #[] #[]) (by
    intro v q
    simp [pXt, pDn] at q)
  have n1 : New wb (wb.alloc (.cells #[.func (.func 76) #[] #[]] 97)) := (Mod.refl _ _).alloc _
  have B1 := Blk.new wb #[.func (.func 76) #[] #[]] 97
  obtain ⟨wc, uc, Fc, Mc⟩ := (Fb.new n1).update Tryz.underlying54 Tryz.underlying9 pTr (listF wb.heap.size) (by
    intro v q
    simp [pXt, pDn, pTr] at q)
  have s1 : w.heap.size + 1 ≤ wb.heap.size := Nat.le_trans (Nat.le_trans (by simp) Ma.size) Mb.size
  have B2 := Mc.blk B1 (by omega)
  have n2 : New wc (wc.alloc (.cells #[.func (.func 77) #[] #[]] 97)) := (Mod.refl _ _).alloc _
  have B3 := New.blk n2 B2
  have C1 := Blk.new wc #[.func (.func 77) #[] #[]] 97
  have s2 : wb.heap.size + 1 ≤ wc.heap.size := Nat.le_trans (by simp) Mc.size
  obtain ⟨wd, ud, Fd, Md⟩ := (Fc.new n2).update Tryz.underlying54 Tryz.underlying9 pWs (listF wc.heap.size) (by
    intro v q
    simp [pXt, pDn, pTr, pWs] at q)
  have B4 := Md.blk B3 (by omega)
  have C2 := Md.blk C1 (by omega)
  obtain ⟨we, ue, Fe, Me⟩ := Fd.update Tryz.underlying54 Tryz.underlying9 pPe (.func (.func 78) #[] #[]) (by
    intro v q
    simp [pXt, pDn, pTr, pWs, pPe] at q)
  obtain ⟨wf, uf, Ff, Mf⟩ := Fe.update Tryz.underlying54 Tryz.underlying9 pSo (.func (.func 81) #[] #[]) (by
    intro v q
    simp [pXt, pDn, pTr, pWs, pPe, pSo] at q)
  have HF := hid Ff
  have HB := hid (Mf.blk (Me.blk B4 (by omega)) (by omega))
  have HC := hid (Mf.blk (Me.blk C2 (by omega)) (by omega))
  have HN : Hid (New w wf) := hid ((((((((((Mod.refl (fun k => k = w.heap.size) w).alloc _).trans Ma).trans Mb).alloc _).trans Mc).alloc _).trans Md).trans Me).trans Mf |>.newOfM (fun k hk q => by omega))
  unfold pXt at ua
  unfold pDn at ub
  unfold pTr at uc
  unfold pWs at ud
  unfold pPe at ue
  unfold pSo at uf
  have hmm := @run_makeMap Tryz.prog
  clear F0 Fa Fb Fc Fd Fe Ff Ma Mb Mc Md Me Mf n1 n2 B1 B2 B3 B4 C1 C2 s1 s2
  have HL3 := hid (list_any (.func 76) wb)
  have HL4 := hid (list_any (.func 77) wc)
  go_enter Tryz.func26, Tryz.ntmps26
  go_wp2_with fail
  refine HL3.out.mono ?_
  rintro e w3 ⟨rfl, rfl⟩
  go_wp2_with fail
  refine HL4.out.mono ?_
  rintro e w3 ⟨rfl, rfl⟩
  go_wp2
  go_ret
  exact ⟨_, _, _, rfl, HF.out, HB.out, HC.out, HN.out⟩
theorem FunAt.hit1 {P : Program} {w : World} {b : Nat} {S : List (ByteArray × Value)} {t k e : TypeId} (h : FunAt w b S) (ht : P.underlying t = some (.map k e)) (hk : P.underlying k = some .string) {s : ByteArray} {v : Value} (hv : (s, v) ∈ S) (hu : ∀ v', (s, v') ∈ S → v' = v) :
    (Instr.lookup t (.map (some b)) (.string s) false).run P w = .ok v w := by
  obtain ⟨es, clock, hb, h1, h2⟩ := h
  rcases MapKept.findNow_spec (fkey_is s) es.toList 0 h1 with ⟨f1, f2⟩ | ⟨j, x, f1, f2, f3⟩
  · obtain ⟨x, hx, e1, e2⟩ := (h2 s v).2 hv
    exact absurd e1 (f2 x hx)
  · have hx := List.mem_of_getElem? f2
    have hs : x.val = v := hu _ ((h2 s x.val).1 ⟨x, hx, f3, rfl⟩)
    simp [Instr.lookup, run_underlying ht, MapKept.run_getObj_map hb, MapKept.run_checkKey hk (fkey_is s), MapKept.run_findKey hk f1, Result.andThen, hs]
theorem plook_pXt {w : World} {b x y : Nat} (h : FunAt w b (partsF x y)) : (Instr.lookup 54 (.map (some b)) (.string pXt) false).run Tryz.prog w = .ok (.func (.func 74) #[] #[]) w :=
  h.hit1 Tryz.underlying54 Tryz.underlying9 (by simp [partsF]) (fun v q => by
    simp [partsF, pXt, pDn, pTr, pWs, pPe, pSo] at q
    exact q)
theorem plook_pDn {w : World} {b x y : Nat} (h : FunAt w b (partsF x y)) : (Instr.lookup 54 (.map (some b)) (.string pDn) false).run Tryz.prog w = .ok (.func (.func 75) #[] #[]) w :=
  h.hit1 Tryz.underlying54 Tryz.underlying9 (by simp [partsF]) (fun v q => by
    simp [partsF, pXt, pDn, pTr, pWs, pPe, pSo] at q
    exact q)
end Go.Proofs.YtbgmkplpolgebaaGreatDoor

namespace Go.Proofs.YtbgmkplpolgebaaGreatDoor
set_option linter.unusedSimpArgs false
set_option linter.unusedVariables false
open Go.RowKit Go.Shelf

/-- What a reader holds. -/
structure RdM where
  old : ByteArray
  new : ByteArray
  name : ByteArray
  tr : Value
  pe : Value
  ws : Value
  on : Value
  named : Bool
  only : Bool
def rdRow (r : RdM) : Array Value := #[.string r.old, .string r.new, .string r.name, r.tr, r.pe, r.ws, r.on, .bool r.named, .bool r.only]
def RdOut (B : Nat) (w : World) : Except Int RdM → Ending → World → Prop
  | .ok r, e, w' => e = .returned (.tuple #[]) ∧ Blk w' B (rdRow r) 49 ∧ Mod (fun k => k = B) w w'
  | .error k, e, w' => e = .panicked (toldM k) ∧ Mod (fun k => k = B) w w'
theorem RdOut.no {B : Nat} {w w' : World} {x : Except Int RdM} {k : Int} (h : x = .error k) (m : Mod (fun k => k = B) w w') : RdOut B w x (.panicked (toldM k)) w' := by subst h; exact ⟨rfl, m⟩
theorem RdOut.yes {B : Nat} {w w' : World} {x : Except Int RdM} {r : RdM} (h : x = .ok r) (hb : Blk w' B (rdRow r) 49) (m : Mod (fun k => k = B) w w') : RdOut B w x (.returned (.tuple #[])) w' := by subst h; exact ⟨rfl, hb, m⟩
def dnR (r : RdM) (s : List UInt8) : Except Int RdM := match loose s with
  | none => .error 2
  | some x => if 100 < x.length then .error 2 else if r.named then .error 6 else .ok { r with name := ⟨x.toArray⟩, named := true }
set_option maxRecDepth 100000 in
set_option maxHeartbeats 4000000 in
theorem dn_any (B : Nat) (r : RdM) (s : ByteArray) (w : World) (hb : Blk w B (rdRow r) 49) (hs : s.size ≤ 4000000) :
    Calls Tryz.prog 75 #[.pointer (some ⟨B, 0, none⟩), .string s] w fun e w' => RdOut B w (dnR r s.data.toList) e w' := by
  have HB := hid hb
  have HUN := hid (unescaped_any s w hs)
  obtain ⟨X, hX⟩ : ∃ X, X = dnR r s.data.toList := ⟨_, rfl⟩
  rw [← hX]
  unfold dnR at hX
  have HXX := hid hX
  clear hb hX
  cases hl : loose s.data.toList with
  | none =>
    rw [hl, hexR] at HUN
    have HX : Hid (X = .error 2) := hid (by rw [HXX.out, hl])
    clear hl HXX
    go_enter Tryz.func75, Tryz.ntmps75
    go_wp2_with fail
    refine HUN.out.mono ?_
    rintro e w1 ⟨rfl, n1⟩
    have N1 := hid (New.mod (S := fun k => k = B) n1)
    clear n1
    go_wp2
    exact ⟨rfl, RdOut.no HX.out N1.out⟩
  | some t =>
    rw [hl, hexR] at HUN
    rw [hl] at HXX
    clear hl
    have hTs : (⟨t.toArray⟩ : ByteArray).size = t.length := size_list t
    obtain ⟨T, hT⟩ : ∃ T : ByteArray, T = ⟨t.toArray⟩ := ⟨_, rfl⟩
    rw [← hT] at HUN hTs
    have HT := hid hT
    clear hT
    by_cases hlong : 100 < t.length
    · have HX : Hid (X = .error 2) := hid (by rw [HXX.out]; simp only; rw [if_pos hlong])
      have hd : decide ((T.size : Int) ≤ 100) = false := decide_eq_false (by omega)
      have hd2 : ¬ (T.size : Int) ≤ 100 := by omega
      clear hlong hTs HXX
      go_enter Tryz.func75, Tryz.ntmps75
      go_wp2_with fail
      refine HUN.out.mono ?_
      rintro e w1 ⟨rfl, n1⟩
      have N1 := hid (New.mod (S := fun k => k = B) n1)
      clear n1
      go_wp2_with fail
      refine (need_no 2 _).mono ?_
      rintro e w3 ⟨rfl, rfl⟩
      go_wp2
      exact ⟨rfl, RdOut.no HX.out N1.out⟩
    · have hd : decide ((T.size : Int) ≤ 100) = true := decide_eq_true (by omega)
      have hd2 : (T.size : Int) ≤ 100 := by omega
      clear hTs
      cases hn : r.named with
      | true =>
        have HX : Hid (X = .error 6) := hid (by rw [HXX.out]; simp only; rw [if_neg hlong, if_pos hn])
        clear hlong HXX
        go_enter Tryz.func75, Tryz.ntmps75
        go_wp2_with fail
        refine HUN.out.mono ?_
        rintro e w1 ⟨rfl, n1⟩
        have N1 := hid (New.mod (S := fun k => k = B) n1)
        have B1 := hid (n1.blk HB.out)
        have b7 : w1.cell? ⟨B, 7, none⟩ = some (.bool r.named) := B1.out.cellv 7 rfl
        rw [hn] at b7
        clear n1
        go_wp2_with fail
        refine (need_yes 2 _).mono ?_
        rintro e w3 ⟨rfl, rfl⟩
        go_wp2_with fail
        refine (need_no 6 _).mono ?_
        rintro e w3 ⟨rfl, rfl⟩
        go_wp2
        exact ⟨rfl, RdOut.no HX.out N1.out⟩
      | false =>
        have HX : Hid (X = .ok { r with name := T, named := true }) := hid (by rw [HXX.out]; simp only; rw [if_neg hlong, if_neg (by rw [hn]; decide), HT.out])
        clear hlong HXX
        go_enter Tryz.func75, Tryz.ntmps75
        go_wp2_with fail
        refine HUN.out.mono ?_
        rintro e w1 ⟨rfl, n1⟩
        have N1 := hid (New.mod (S := fun k => k = B) n1)
        have B1 := hid (n1.blk HB.out)
        have b2 : w1.cell? ⟨B, 2, none⟩ = some (.string r.name) := B1.out.cellv 2 rfl
        have b7 : w1.cell? ⟨B, 7, none⟩ = some (.bool r.named) := B1.out.cellv 7 rfl
        have bl := B1.out.lt
        have bf := B1.out.frz
        rw [hn] at b7
        clear n1
        go_wp2_with fail
        refine (need_yes 2 _).mono ?_
        rintro e w3 ⟨rfl, rfl⟩
        go_wp2_with fail
        refine (need_yes 6 _).mono ?_
        rintro e w3 ⟨rfl, rfl⟩
        go_wp2
        go_end0
        refine RdOut.yes HX.out (((B1.out.set 2 (.string T)).set 7 (.bool true)).row rfl) ?_
        exact Mod.set (Mod.set N1.out ⟨B, 2, none⟩ _ (.inl rfl)) ⟨B, 7, none⟩ _ (.inl rfl)
end Go.Proofs.YtbgmkplpolgebaaGreatDoor
