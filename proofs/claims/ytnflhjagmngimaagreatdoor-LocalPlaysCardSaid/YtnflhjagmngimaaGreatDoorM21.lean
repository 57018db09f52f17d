/-
  Several texts in one, in their build order. The walk of the function that reads a name's line. Conditions: the message that is read lies as told. A map of strings to functions that a call has made: its look-up and its store. Over any program. No condition. The walk of lines: the map of the three functions that read a line's rest. No condition.
-/
import Derived.Test.YtnflhjagmngimaaGreatDoorM20
import Derived.Test.YtnflhjagmngimaaGreatDoorM1
import Derived.Test.YtnflhjagmngimaaGreatDoorM2
import Derived.Maps.OwnOps
import Derived.MapKept
import Derived.Carry
namespace Go.Proofs.YtnflhjagmngimaaGreatDoor
set_option linter.unusedSimpArgs false
set_option linter.unusedVariables false
open Go.RowKit Go.Shelf

theorem kname_val (l : List ByteArray) (t : List UInt8) : (decide (unhexE t = 0) && namesB (addN l (unhexB t))) = (match unhex t with
    | some r => namesB (addN l r)
    | none => false) := by
  cases h : unhex t with
  | none =>
    have := unhex_no h
    rw [this.2]
    rfl
  | some r =>
    obtain ⟨e1, e2⟩ := unhex_yes h
    rw [e1, e2]
    rfl
theorem unhexB_len (t : List UInt8) : (unhexB t).length ≤ t.length := by
  cases h : unhex t with
  | none =>
    rw [(unhex_no h).1]
    simp
  | some r =>
    have e := congrArg List.length (hex_unhex t h)
    rw [hex_len] at e
    rw [(unhex_yes h).1]
    omega
set_option maxRecDepth 100000 in
set_option maxHeartbeats 4000000 in
theorem k2_any (B : Nat) (p : Int) (v : Value) (l : List ByteArray) (ck nx rest : ByteArray) (ln : Int) (w : World) (hO : OwnT w (B + 1) v l) (hl : l.length ≤ 20) (hB : Blk w B #[.int .i64 p, v, .string ck, .int .i64 ln, .string nx] 159) (hs : rest.size ≤ 65536) :
    Calls Tryz.prog 162 #[.pointer (some ⟨B, 0, none⟩), .string rest] w fun e w' => ∃ v', e = .returned (.bool (decide (unhexE rest.data.toList = 0) && namesB (addN l (unhexB rest.data.toList)))) ∧ Blk w' B #[.int .i64 p, v', .string ck, .int .i64 ln, .string ⟨#[78, 97, 109, 101, 58, 32, 67, 111, 111, 107, 105, 101, 58, 32]⟩] 159 ∧ OwnT w' (B + 1) v' (addN l (unhexB rest.data.toList)) ∧ Mod (fun k => B ≤ k) w w' := by
  have HF := hid (fun W => fromHex_any rest W hs)
  have HNM := hid (fun a c L W (q : StrsAt W a c L) => names_any a c L W q)
  obtain ⟨i1, hj, hy0, hy1, hy2⟩ := info_parts info_str
  have hub : (⟨(unhexB rest.data.toList).toArray⟩ : ByteArray).size ≤ maxLen := by
    have := unhexB_len rest.data.toList
    have e : rest.data.toList.length = rest.size := by rw [Array.length_toList]; rfl
    show (unhexB rest.data.toList).toArray.size ≤ _
    unfold maxLen
    simp
    omega
  obtain ⟨U, hU⟩ : ∃ U : ByteArray, U = ⟨(unhexB rest.data.toList).toArray⟩ := ⟨_, rfl⟩
  obtain ⟨E, hE⟩ : ∃ E, E = unhexE rest.data.toList := ⟨_, rfl⟩
  have hadd : addN l (unhexB rest.data.toList) = l ++ [U] := by rw [hU]; rfl
  rw [hadd]
  rw [← hU] at HF hub
  rw [← hE] at HF ⊢
  obtain ⟨L, hL⟩ : ∃ L, L = l ++ [U] := ⟨_, rfl⟩
  rw [← hL]
  have HL := hid hL
  clear hL
  obtain ⟨R, hR⟩ : ∃ R, R = (decide (E = 0) && namesB L) := ⟨_, rfl⟩
  rw [← hR]
  have HR := hid hR
  clear hR
  have HO := hid hO; have HB := hid hB
  have HUB := hid hub
  clear hO hB hU hE hadd hub
  have dB := HB.out.lt
  go_enter Tryz.func162, Tryz.ntmps162
  go_wp2_with fail
  refine (HF.out _).mono ?_
  rintro e w1 ⟨rfl, n1⟩
  have HB1 := hid (n1.blk HB.out); have HO1 := hid (HO.out.new n1)
  have HM1 : Hid (Mod (fun k => B ≤ k) w w1) := hid n1.mod
  have hsz1 := n1.size
  clear n1
  have d1 := HB1.out.cellv 1 rfl; have d4 := HB1.out.cellv 4 rfl; have dl := HB1.out.lt; have df := HB1.out.frz
  go_wp2_with (at_builtin; refine wpList_append_own_at _ rfl _ _ 22 rfl (B + 1) 9 i1 _ 1 16 Tryz.underlying22 hj hy0 hy1 hy2 rfl (by decide) v l.length (l.map Value.string) rfl ?ow ⟨w1.heap.size, 0, none⟩ 1 1 [.string U] rfl rfl ?hn ?h1 ?h63 ?hby ?hba ?_)
  case ow => exact (HO1.out.new ((Mod.refl _ _).alloc _)).row
  case hn =>
    intro j u hj
    rw [add_none]
    match j, hj with
    | 0, hj => simp at hj; subst hj; exact (Blk.newAt (by simp)).cellv 0 rfl
  case h1 => intro u hu; simp at hu; subst hu; rfl
  case h63 => unfold maxLen; omega
  case hby => omega
  case hba => simp; omega
  intro o3 w3 r3 g3 _ _
  have O3 : Hid (OwnT w3 (B + 1) o3 (l ++ [U])) := hid (ownT_of HO1.out.small HUB.out r3)
  have M3 : Hid (Mod (fun k => B + 1 ≤ k) w1 w3) := hid (mod_grownT (HO1.out.new ((Mod.refl _ _).alloc _)) (Nat.le_refl _) ((Mod.refl _ _).alloc _) g3)
  have HB3 := hid (M3.out.blk HB1.out (by omega))
  have HM3 : Hid (Mod (fun k => B ≤ k) w w3) := hid (HM1.out.trans' M3.out (fun k _ q => by omega))
  clear r3 g3 d1 d4 dl df
  rw [← HL.out] at O3
  obtain ⟨a3, c3, rfl, hs3, hb3⟩ := O3.out.strs
  have HS3 := hid hs3
  have hr3 := hs3.room; have hcp3 := hs3.cap
  unfold maxLen at hcp3
  clear hs3 hb3
  have d1 := HB3.out.cellv 1 rfl; have d4 := HB3.out.cellv 4 rfl; have dl := HB3.out.lt; have df := HB3.out.frz
  have HB4 := hid ((HB3.out.set 1 (.slice a3 L.length c3)).set 4 (.string ⟨#[78, 97, 109, 101, 58, 32, 67, 111, 111, 107, 105, 101, 58, 32]⟩))
  have HM4 : Hid (Mod (fun k => k = B) w3 ((w3.setCell ⟨B, 1, none⟩ (.slice a3 L.length c3)).setCell ⟨B, 4, none⟩ (.string ⟨#[78, 97, 109, 101, 58, 32, 67, 111, 111, 107, 105, 101, 58, 32]⟩))) := hid (Mod.set (S := fun k => k = B) (Mod.set (S := fun k => k = B) (Mod.refl _ _) ⟨B, 1, none⟩ _ (.inl rfl)) ⟨B, 4, none⟩ _ (.inl rfl))
  have HO4 := hid (O3.out.mod HM4.out (fun k hk _ q => by omega))
  have HMM := hid (HM3.out.trans' HM4.out (fun k _ q => by (show B ≤ k; omega)))
  have HNA := hid (HNM.out a3 c3 L _ (by obtain ⟨a4, c4, q, q2, -⟩ := HO4.out.strs; cases q; exact q2))
  by_cases hE : E = 0
  · have hEI : (E == 0) = true := by rw [hE]; rfl
    have HRR := hid (show R = namesB L by rw [HR.out, decide_eq_true hE, Bool.true_and])
    subst hE
    go_wp2_with (go_at_call 72; refine HNA.out.mono ?_; rintro e w5 ⟨rfl, rfl⟩)
    go_ret
    exact ⟨_, ret_bool HRR.out.symm, HB4.out, HO4.out, HMM.out⟩
  · have hEI : (E == 0) = false := by rw [beq_eq_false_iff_ne]; exact hE
    have HRR := hid (show R = false by rw [HR.out, decide_eq_false hE, Bool.false_and])
    clear hE
    go_wp2
    go_ret
    exact ⟨_, ret_bool HRR.out.symm, HB4.out, HO4.out, HMM.out⟩
end Go.Proofs.YtnflhjagmngimaaGreatDoor

namespace Go.Proofs.YtnflhjagmngimaaGreatDoor
set_option linter.unusedSimpArgs false
set_option linter.unusedVariables false
open Go.RowKit Go.MapKept

/-- Block b is a map; its entries are just those of L. -/
def FunAt (w : World) (b : Nat) (L : List (ByteArray × Value)) : Prop :=
  ∃ es clock, w.heap[b]? = some (.map es clock) ∧ (∀ x ∈ es.toList, IsKey .string x.key) ∧ ∀ (s : ByteArray) v, (∃ x ∈ es.toList, x.key = .string s ∧ x.val = v) ↔ (s, v) ∈ L
theorem FunAt.of_heap {w w' : World} {b : Nat} {S : List (ByteArray × Value)} (h : FunAt w b S) (e : w'.heap[b]? = w.heap[b]?) : FunAt w' b S := by
  obtain ⟨es, clock, hb, h1, h2⟩ := h
  exact ⟨es, clock, e.trans hb, h1, h2⟩
theorem FunAt.lt {w : World} {b : Nat} {S : List (ByteArray × Value)} (h : FunAt w b S) : b < w.heap.size := by
  obtain ⟨es, clock, hb, -⟩ := h
  exact (Array.getElem?_eq_some_iff.1 hb).1
theorem FunAt.new {w w' : World} {b : Nat} {S : List (ByteArray × Value)} (h : FunAt w b S) (n : New w w') : FunAt w' b S := h.of_heap (n.block b h.lt (fun x => x))
theorem FunAt.made (w : World) : FunAt (w.alloc (.map #[] 0)) w.heap.size [] :=
  ⟨#[], 0, (MapKept.heap_alloc w _).1, by simp, by simp⟩
theorem fkey_is (s : ByteArray) : IsKey .string (.string s) := by simp [IsKey]
theorem FunAt.hit {P : Program} {w : World} {b : Nat} {S : List (ByteArray × Value)} {t k e : TypeId} (h : FunAt w b S) (ht : P.underlying t = some (.map k e)) (hk : P.underlying k = some .string) {s : ByteArray} {v : Value} (hv : (s, v) ∈ S) (hu : ∀ v', (s, v') ∈ S → v' = v) :
    (Instr.lookup t (.map (some b)) (.string s) true).run P w = .ok (.tuple #[v, .bool true]) w := by
  obtain ⟨es, clock, hb, h1, h2⟩ := h
  rcases findNow_spec (fkey_is s) es.toList 0 h1 with ⟨f1, f2⟩ | ⟨j, x, f1, f2, f3⟩
  · obtain ⟨x, hx, e1, e2⟩ := (h2 s v).2 hv
    exact absurd e1 (f2 x hx)
  · have hx := List.mem_of_getElem? f2
    have hs : x.val = v := hu _ ((h2 s x.val).1 ⟨x, hx, f3, rfl⟩)
    simp [Instr.lookup, run_underlying ht, MapKept.run_getObj_map hb, MapKept.run_checkKey hk (fkey_is s), MapKept.run_findKey hk f1, Result.andThen, hs]
theorem FunAt.miss {P : Program} {w : World} {b : Nat} {S : List (ByteArray × Value)} {t k e : TypeId} (h : FunAt w b S) (ht : P.underlying t = some (.map k e)) (hk : P.underlying k = some .string) {z : Value} (hz : (zeroValue e).run P w = .ok z w) {s : ByteArray} (hv : ∀ v, (s, v) ∉ S) :
    (Instr.lookup t (.map (some b)) (.string s) true).run P w = .ok (.tuple #[z, .bool false]) w := by
  obtain ⟨es, clock, hb, h1, h2⟩ := h
  rcases findNow_spec (fkey_is s) es.toList 0 h1 with ⟨f1, f2⟩ | ⟨j, x, f1, f2, f3⟩
  · simp [Instr.lookup, run_underlying ht, MapKept.run_getObj_map hb, MapKept.run_checkKey hk (fkey_is s), MapKept.run_findKey hk f1, hz, Result.andThen]
  · have hx := List.mem_of_getElem? f2
    exact absurd ((h2 s x.val).1 ⟨x, hx, f3, rfl⟩) (hv _)
theorem Mod.setObjF {w : World} {b : Nat} (o : Obj) : Mod (· = b) w { w with heap := w.heap.setIfInBounds b o } :=
  ⟨rfl, rfl, rfl, by simp, fun k hk hn => by simp [Ne.symm hn]⟩
theorem FunAt.update {P : Program} {w : World} {b : Nat} {S : List (ByteArray × Value)} {t k e : TypeId} (h : FunAt w b S) (ht : P.underlying t = some (.map k e)) (hk : P.underlying k = some .string) (s : ByteArray) (v : Value) (hn : ∀ v, (s, v) ∉ S) :
    ∃ w', (Instr.mapUpdate t (.map (some b)) (.string s) v).run P w = .ok () w' ∧ FunAt w' b ((s, v) :: S) ∧ Mod (· = b) w w' := by
  obtain ⟨es, clock, hb, h1, h2⟩ := h
  rcases findNow_spec (fkey_is s) es.toList 0 h1 with ⟨f1, f2⟩ | ⟨j, x, f1, f2, f3⟩
  · refine ⟨_, by simp [Instr.mapUpdate, run_underlying ht, MapKept.run_getObj_map hb, MapKept.run_checkKey hk (fkey_is s), MapKept.run_findKey hk f1, MapKept.run_setObj_map _ hb, Result.andThen]; rfl, ⟨_, _, (MapKept.heap_set hb).1, ?_, ?_⟩, Mod.setObjF _⟩
    · intro x hx
      simp only [Array.toList_push, List.mem_append, List.mem_singleton] at hx
      rcases hx with hx | rfl
      · exact h1 x hx
      · exact fkey_is s
    · intro s' v'
      simp only [Array.toList_push, List.mem_append, List.mem_cons, List.not_mem_nil, or_false, Prod.mk.injEq]
      constructor
      · rintro ⟨x, hx | rfl, e1, e2⟩
        · exact .inr ((h2 s' v').1 ⟨x, hx, e1, e2⟩)
        · simp at e1 e2
          exact .inl ⟨e1.symm, e2.symm⟩
      · rintro (⟨rfl, rfl⟩ | hs)
        · exact ⟨_, .inr rfl, rfl, rfl⟩
        · obtain ⟨x, hx, e1, e2⟩ := (h2 s' v').2 hs
          exact ⟨x, .inl hx, e1, e2⟩
  · have hx := List.mem_of_getElem? f2
    exact absurd ((h2 s x.val).1 ⟨x, hx, f3, rfl⟩) (hn _)
end Go.Proofs.YtnflhjagmngimaaGreatDoor

namespace Go.Proofs.YtnflhjagmngimaaGreatDoor
set_option linter.unusedSimpArgs false
set_option linter.unusedVariables false
open Go.RowKit

def kPort : ByteArray := ⟨#[80, 111, 114, 116, 58, 32]⟩
def kName : ByteArray := ⟨#[78, 97, 109, 101, 58, 32]⟩
def kCook : ByteArray := ⟨#[67, 111, 111, 107, 105, 101, 58, 32]⟩
def linesF : List (ByteArray × Value) := [(kCook, .func (.func 164) #[] #[]), (kName, .func (.func 162) #[] #[]), (kPort, .func (.func 161) #[] #[])]
theorem FunAt.mod {S : Nat → Prop} {w w' : World} {b : Nat} {L : List (ByteArray × Value)} (h : FunAt w b L) (n : Mod S w w') (hs : ¬ S b) : FunAt w' b L := h.of_heap (n.block b h.lt hs)
theorem Mod.newOfL {S : Nat → Prop} {w w' : World} (hm : Mod S w w') (hs : ∀ k, k < w.heap.size → ¬ S k) : New w w' :=
  ⟨hm.os, hm.tape, hm.output, hm.size, fun k hk _ => hm.block k hk (hs k hk)⟩
set_option maxRecDepth 100000 in
set_option maxHeartbeats 1000000 in
theorem lines_any (w : World) : Calls Tryz.prog 146 #[] w fun e w' => ∃ b, e = .returned (.map (some b)) ∧ FunAt w' b linesF ∧ New w w' := by
  have F0 := FunAt.made w
  obtain ⟨wa, ua, Fa, Ma⟩ := F0.update Tryz.underlying186 Tryz.underlying9 kPort (.func (.func 161) #[] #[]) (by simp)
  obtain ⟨wb, ub, Fb, Mb⟩ := Fa.update Tryz.underlying186 Tryz.underlying9 kName (.func (.func 162) #[] #[]) (by
    intro v q
    simp [kName, kPort] at q)
  obtain ⟨wc, uc, Fc, Mc⟩ := Fb.update Tryz.underlying186 Tryz.underlying9 kCook (.func (.func 164) #[] #[]) (by
    intro v q
    simp [kCook, kName, kPort] at q)
  have HF := hid Fc
  have HN : Hid (New w wc) := hid (((((Mod.refl (fun k => k = w.heap.size) w).alloc _).trans Ma).trans Mb).trans Mc |>.newOfL (fun k hk q => by omega))
  unfold kPort at ua
  unfold kName at ub
  unfold kCook at uc
  have hmm := @run_makeMap Tryz.prog
  clear F0 Fa Fb Fc Ma Mb Mc
  go_enter Tryz.func146, Tryz.ntmps146
  go_wp2
  go_ret
  exact ⟨_, rfl, HF.out, HN.out⟩
end Go.Proofs.YtnflhjagmngimaaGreatDoor
