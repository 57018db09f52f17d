/-
  Several texts in one, in their build order. Bytes that lie in a block, whoever laid them: read, written, made a text; what '[]byte(s)' lays. Plain facts over the program. No condition. The walks of need, caught, hexed (package magnet). Condition: the text is no longer than the bound. The walk of unescaped (package magnet). Condition: the text is small. The walks of Unescape and of its deferred closure (package magnet). No condition on the text. A map of strings to functions that a call has made: its look-up and its store. Over any program. No condition.
-/
import Derived.Test.YtbgmkplpolgebaaGreatDoorM3
import Derived.Laws.IdiomStrings
import Derived.Test.YtbgmkplpolgebaaGreatDoorM7
import Derived.Test.YtbgmkplpolgebaaGreatDoorM5
import Derived.Defers
import Derived.Recover
import Derived.Test.YtbgmkplpolgebaaGreatDoorM9
import Derived.Test.YtbgmkplpolgebaaGreatDoorM1
import Derived.Test.YtbgmkplpolgebaaGreatDoorM2
import Derived.Maps.OwnOps
import Derived.MapKept
import Derived.Carry
namespace Go.Proofs.YtbgmkplpolgebaaGreatDoor
set_option linter.unusedSimpArgs false
set_option linter.unusedVariables false
open Go.RowKit

/-- The first cells of block g are the bytes s, and may be written. -/
def ByAt (w : World) (g : Nat) (s : List UInt8) : Prop :=
  ∃ (C : Array Value) (fr : Nat × Nat), w.heap[g]? = some (.cells C 5 fr) ∧ s.length ≤ C.size ∧ C.size ≤ fr.1 + (if fr = (0, 0) then C.size else 0) ∧ ∀ (i : Nat) (hi : i < s.length), C[i]? = some (.int .u8 (s[i].toNat : Int))
theorem ByAt.cell {w : World} {g : Nat} {s : List UInt8} (h : ByAt w g s) {i : Nat} (hi : i < s.length) : w.cell? ⟨g, i, none⟩ = some (.int .u8 (s[i].toNat : Int)) := by
  obtain ⟨C, fr, h1, -, -, h4⟩ := h
  simp only [World.cell?, h1]
  exact h4 i hi
theorem ByAt.lt {w : World} {g : Nat} {s : List UInt8} (h : ByAt w g s) : g < w.heap.size := by
  obtain ⟨C, fr, h1, -⟩ := h
  exact (Array.getElem?_eq_some_iff.1 h1).1
theorem ByAt.frz {w : World} {g : Nat} {s : List UInt8} (h : ByAt w g s) {i : Nat} (hi : i < s.length) : w.frozen? ⟨g, i, none⟩ = false := by
  obtain ⟨C, fr, h1, h2, h3, -⟩ := h
  obtain ⟨lo, hi2⟩ := fr
  simp only [World.frozen?, h1]
  by_cases e : (lo, hi2) = (0, 0)
  · cases e
    simp
  · rw [if_neg e] at h3
    have : ¬ lo ≤ i := by simp only at h3; omega
    simp [this]
theorem ByAt.of_heap {w w' : World} {g : Nat} {s : List UInt8} (h : ByAt w g s) (e : w'.heap[g]? = w.heap[g]?) : ByAt w' g s := by
  obtain ⟨C, fr, h1, h2⟩ := h
  exact ⟨C, fr, e.trans h1, h2⟩
theorem ByAt.new {w w' : World} {g : Nat} {s : List UInt8} (h : ByAt w g s) (n : New w w') : ByAt w' g s := h.of_heap (n.block g h.lt (fun x => x))
theorem ByAt.mod {S : Nat → Prop} {w w' : World} {g : Nat} {s : List UInt8} (h : ByAt w g s) (n : Mod S w w') (hg : ¬ S g) : ByAt w' g s := h.of_heap (n.block g h.lt hg)
theorem ByAt.of_blk {w : World} {g : Nat} {s : List UInt8} {cs : Array Value} (h : Blk w g cs 5) (hl : s.length ≤ cs.size) (hc : ∀ (i : Nat) (hi : i < s.length), cs[i]? = some (.int .u8 (s[i].toNat : Int))) : ByAt w g s :=
  ⟨cs, (0, 0), h, hl, by simp, hc⟩
theorem ByAt.set {w : World} {g : Nat} {s : List UInt8} (h : ByAt w g s) {i : Nat} (hi : i < s.length) (b : UInt8) : ByAt (w.setCell ⟨g, i, none⟩ (.int .u8 (b.toNat : Int))) g (s.set i b) := by
  obtain ⟨C, fr, h1, h2, h3, h4⟩ := h
  refine ⟨C.setIfInBounds i (.int .u8 (b.toNat : Int)), fr, ?_, by simpa using h2, by simpa using h3, fun j hj => ?_⟩
  · have hlt : g < w.heap.size := (Array.getElem?_eq_some_iff.1 h1).1
    have h' : w.heap[g] = .cells C 5 fr := by simpa [Array.getElem?_eq_getElem hlt] using h1
    show (w.heap.modify g _)[g]? = _
    rw [Array.getElem?_eq_getElem (by simpa using hlt), Array.getElem_modify_self, h']
    rfl
  · rw [List.length_set] at hj
    rw [Array.getElem?_setIfInBounds]
    by_cases e : i = j
    · subst e
      rw [if_pos rfl, if_pos (by omega)]
      simp
    · rw [if_neg e, h4 j hj, List.getElem_set_ne e]
/-- Behind '[]byte(s)'. -/
abbrev afterBytes (w : World) (s : ByteArray) : World :=
  w.drew.alloc (.cells (bytesRow s (grownCap w s.size 0 5)) 5 ((bytesRow s (grownCap w s.size 0 5)).size, (bytesRow s (grownCap w s.size 0 5)).size + 1))
theorem bytes_of (w : World) (s : ByteArray) : (convert 9 42 (.string s)).run Tryz.prog w = .ok (.slice (some ⟨w.heap.size, 0, none⟩) s.size (grownCap w s.size 0 5)) (afterBytes w s) :=
  run_bytes_of_string w 9 42 5 s Tryz.underlying9 Tryz.underlying42 Tryz.underlying5
theorem bytes_lie (w : World) (s : ByteArray) {g : Nat} (hg : g = w.heap.size) : ByAt (afterBytes w s) g s.data.toList := by
  subst hg
  refine ⟨bytesRow s (grownCap w s.size 0 5), ((bytesRow s (grownCap w s.size 0 5)).size, (bytesRow s (grownCap w s.size 0 5)).size + 1), (show (w.heap.push _)[w.heap.size]? = _ by simp), ?_, ?_, fun i hi => ?_⟩
  · unfold bytesRow
    simp
  · exact Nat.le_add_right _ _
  · have hi' : i < s.data.size := by simpa using hi
    unfold bytesRow
    rw [Array.getElem?_append_left (by simpa using hi'), Array.getElem?_map, Array.getElem?_eq_getElem hi']
    rfl
theorem bytes_new (w : World) (s : ByteArray) : New w (afterBytes w s) := ((Mod.refl _ _).drew).alloc _
theorem ByAt.text {w : World} {g : Nat} {s : List UInt8} (h : ByAt w g s) (n c : Nat) (hn : n = s.length) : (convert 42 9 (.slice (some ⟨g, 0, none⟩) n c)).run Tryz.prog w = .ok (.string ⟨s.toArray⟩) w := by
  subst hn
  refine run_convert_bytes_back w 42 9 5 ⟨g, 0, none⟩ c s Tryz.underlying42 Tryz.underlying5 Tryz.underlying9 (fun j hj => ?_)
  have hadd : (⟨g, 0, none⟩ : Addr).add j = ⟨g, 0 + j, none⟩ := by unfold Addr.add; split <;> simp_all
  rw [hadd, Nat.zero_add]
  exact h.cell hj
theorem newGrown {w w1 w2 : World} {row : Option Nat} (n : New w w1) (g : w1.grownBy w2 row) (h : ∀ k, row = some k → w.heap.size ≤ k) : New w w2 :=
  ⟨g.os.trans n.os, g.tape.trans n.tape, g.output.trans n.output, Nat.le_trans n.size g.size, fun k hk _ => (g.block k (Nat.lt_of_lt_of_le hk n.size) (fun q => by have := h k q.symm; omega)).trans (n.block k hk (fun q => q))⟩
end Go.Proofs.YtbgmkplpolgebaaGreatDoor

namespace Go.Proofs.YtbgmkplpolgebaaGreatDoor
set_option linter.unusedSimpArgs false
set_option linter.unusedVariables false
open Go.RowKit Go.Shelf

/-- What a call stops with. -/
def toldM (k : Int) : List PanicEntry := [{ v := .iface 94 (.int .i64 k), recovered := false }]
theorem need_no (k : Int) (w : World) : Calls Tryz.prog 23 #[.bool false, .int .i64 k] w fun e w' => e = .panicked (toldM k) ∧ w = w' := by
  go_enter Tryz.func23, Tryz.ntmps23
  go_wp2
  exact ⟨rfl, rfl, rfl⟩
theorem need_yes (k : Int) (w : World) : Calls Tryz.prog 23 #[.bool true, .int .i64 k] w fun e w' => e = .returned (.tuple #[]) ∧ w = w' := by
  go_enter Tryz.func23, Tryz.ntmps23
  go_wp2
  go_end0
  exact ⟨rfl, rfl⟩
theorem caught_idle (p : Addr) (w : World) :
    CallsD Tryz.prog 21 #[.pointer (some p)] .returning w fun e u' w' => e = .returned (.tuple #[]) ∧ u' = .returning ∧ w' = w := by
  refine callsD_of_wpS Tryz.func21 rfl fun c₀ cs hu => ?_
  apply wpS_seq
  apply wpS_region
  simp [wpOpsS, go_sem, recoverD, hu, Tryz.ntmps21, Exit.thenS]
  apply wpS_seq
  refine wpS_of_wp ?_
  go_wp2
  refine wpS_cond (t := false) (by simp [Act.eval, Array.replicate]) ?_
  simp only [Bool.false_eq_true, if_false]
  refine wpS_of_wp (wp_skip ?_)
  cases c₀
  simp_all [bodyPostS, results, Tryz.results21]
set_option maxRecDepth 100000 in
set_option maxHeartbeats 1000000 in
theorem caught_told (q : Nat) (k : Int) (w : World) (hq : Blk w q #[.int .i64 0] 28) :
    CallsD Tryz.prog 21 #[.pointer (some ⟨q, 0, none⟩)] (.panicking (toldM k)) w fun e u' w' =>
      e = .returned (.tuple #[]) ∧ u' = .panicking [{ v := .iface 94 (.int .i64 k), recovered := true }] ∧ Blk w' q #[.int .i64 k] 28 ∧ Mod (fun j => j = q) w w' := by
  obtain ⟨q1, q2, q3⟩ := hq.one
  have HQ := hid hq
  clear hq
  unfold toldM
  have hta : ∀ (x : Int) (w : World), (Instr.typeAssert (.iface 94 (.int .i64 x)) 20 94 true).run Tryz.prog w = .ok (.tuple #[.int .i64 x, .bool true]) w := fun _ _ => by simp [Instr.typeAssert, run_underlying Tryz.underlying94, Result.andThen]
  refine callsD_of_wpS Tryz.func21 rfl fun c₀ cs hu => ?_
  apply wpS_seq
  apply wpS_region
  simp [wpOpsS, go_sem, recoverD, hu, Tryz.ntmps21, Exit.thenS, show Array.replicate 18 undef = #[undef, undef, undef, undef, undef, undef, undef, undef, undef, undef, undef, undef, undef, undef, undef, undef, undef, undef] from rfl, show Array.replicate 19 undef = #[undef, undef, undef, undef, undef, undef, undef, undef, undef, undef, undef, undef, undef, undef, undef, undef, undef, undef, undef] from rfl]
  apply wpS_seq
  refine wpS_of_wp ?_
  go_wp2
  refine wpS_cond (t := true) (by simp [Act.eval, Array.replicate]) ?_
  simp only [if_true]
  refine wpS_of_wp ?_
  go_wp2
  refine ⟨rfl, .panicking [{ v := .iface 94 (.int .i64 k), recovered := true }], ?_, .tuple #[], by simp [results, Tryz.results21], rfl, rfl, ?_, ?_⟩
  · first | rfl | (simp; done) | (cases c₀; simp_all)
  · apply Blk.row
    · repeat (first | with_reducible exact HQ.out | (with_reducible apply Blk.newAt; (simp; done)) | with_reducible apply Blk.alloc | with_reducible apply Blk.drew | with_reducible apply Blk.drewN | with_reducible apply Blk.set | (with_reducible apply Blk.other; · first | (simp; done) | (simp; omega) | omega) | (with_reducible apply Blk.putObj; · first | (simp; done) | (simp; omega) | omega))
    · rfl
  · repeat (first | with_reducible exact Mod.refl _ _ | with_reducible refine Mod.alloc ?_ _ | with_reducible refine Mod.drew ?_ | with_reducible refine Mod.drewN ?_ _ | (with_reducible refine Mod.set ?_ _ _ (by first | exact .inl rfl | (right; omega) | (right; simp; done) | (right; simp; omega) | (left; omega) | (left; simp; done) | (left; simp; omega))) | (with_reducible refine Mod.putObj ?_ _ _ (by first | exact .inl rfl | (right; omega) | (right; simp; done) | (right; simp; omega) | (left; omega) | (left; simp; done) | (left; simp; omega))))
/-- Digits made small from the left. -/
def lowK (d : List UInt8) (k : Nat) : List UInt8 := (d.take k).map lowC ++ d.drop k
theorem lowK_len (d : List UInt8) (k : Nat) : (lowK d k).length = d.length := by unfold lowK; simp; omega
theorem lowK_pre {d : List UInt8} {k : Nat} (h : k < d.length) : ((d.take k).map lowC).length = k := by rw [List.length_map, List.length_take]; omega
theorem lowK_at {d : List UInt8} {k : Nat} (h : k < d.length) : (lowK d k)[k]'(by rw [lowK_len]; exact h) = d[k] := by
  unfold lowK
  rw [List.getElem_append_right (by rw [lowK_pre h]; exact Nat.le_refl _), List.getElem_drop]
  congr 1
  rw [lowK_pre h]; omega
theorem lowK_next {d : List UInt8} {k : Nat} (h : k < d.length) : (lowK d k).set k (lowC d[k]) = lowK d (k + 1) := by
  unfold lowK
  rw [List.set_append_right _ _ (by rw [lowK_pre h]; exact Nat.le_refl _), lowK_pre h, Nat.sub_self, List.drop_eq_getElem_cons h, List.set_cons_zero, List.take_add_one, List.getElem?_eq_getElem h, List.map_append]
  simp only [Option.toList, List.map_cons, List.map_nil, List.append_assoc, List.cons_append, List.nil_append]
theorem lowK_keep {d : List UInt8} {k : Nat} (h : k < d.length) (hc : lowC d[k] = d[k]) : lowK d k = lowK d (k + 1) := by
  unfold lowK
  rw [List.drop_eq_getElem_cons h, List.take_add_one, List.getElem?_eq_getElem h, List.map_append]
  simp only [Option.toList, List.map_cons, List.map_nil, List.append_assoc, List.cons_append, List.nil_append, hc]
theorem lowK_zero (d : List UInt8) : lowK d 0 = d := by simp [lowK]
theorem lowK_all (d : List UInt8) {k : Nat} (h : d.length ≤ k) : lowK d k = d.map lowC := by
  unfold lowK
  rw [List.take_of_length_le h, List.drop_of_length_le h, List.append_nil]
/-- What hexed answers. -/
def hexR : Option (List UInt8) → Ending
  | some x => .returned (.string ⟨x.toArray⟩)
  | none => .panicked (toldM 2)
set_option maxRecDepth 100000 in
set_option maxHeartbeats 4000000 in
theorem hexed_any (s : ByteArray) (w : World) (hs : s.size ≤ 65536) : Calls Tryz.prog 127 #[.string s] w fun e w' => e = hexR (hexC s.data.toList) ∧ New w w' := by
  have hlen : s.data.toList.length = s.size := by rw [Array.length_toList]; rfl
  have hcw := bytes_of w s
  obtain ⟨cap, hcap⟩ : ∃ cap, cap = grownCap w s.size 0 5 := ⟨_, rfl⟩
  have HBY := hid (bytes_lie w s rfl)
  have HBN := hid (bytes_new w s)
  rw [← hcap] at hcw
  obtain ⟨W, hW⟩ : ∃ W, W = afterBytes w s := ⟨_, rfl⟩
  rw [← hW] at hcw HBY HBN
  clear hW hcap
  obtain ⟨d, hd⟩ : ∃ d, d = s.data.toList := ⟨_, rfl⟩
  rw [← hd] at HBY hlen
  rw [← hd]
  clear hd
  go_enter Tryz.func127, Tryz.ntmps127
  go_wp2_with fail
  go_loopw [12] (fun x wr => ∃ (k : Nat), x = .int .i64 k ∧ k ≤ s.size ∧ ByAt wr w.heap.size (lowK d k) ∧ New w wr) (fun x _ => s.size - (intOf x).toNat)
  case atStart => exact ⟨0, rfl, by omega, by rw [lowK_zero]; exact HBY.out, HBN.out⟩
  case round =>
    clear HBY HBN
    obtain ⟨k, rfl, hk, hb, hn⟩ := hrel
    have HB := hid hb; have HN := hid hn
    by_cases hlt : k < s.size
    · have hltI : (k : Int) < (s.size : Int) := by omega
      have hkd : k < d.length := by omega
      have hc := hb.cell (i := k) (by rw [lowK_len]; exact hkd)
      have hf := hb.frz (i := k) (by rw [lowK_len]; exact hkd)
      rw [lowK_at hkd] at hc
      have hbl := hb.lt
      clear hb hn
      obtain ⟨c, hcc⟩ : ∃ c, c = d[k] := ⟨_, rfl⟩
      have HS := hid (lowK_next hkd)
      have HK := hid (lowK_keep hkd)
      have HSET := hid (fun b => HB.out.set (i := k) (by rw [lowK_len]; exact hkd) b)
      rw [← hcc] at hc HS HK
      have hc255 := c.toNat_lt
      clear hcc
      by_cases h1 : 65 ≤ c.toNat
      · have h1I : (65 : Int) ≤ (c.toNat : Int) := by omega
        by_cases h2 : c.toNat ≤ 70
        · have h2I : (c.toNat : Int) ≤ 70 := by omega
          have el : lowC c = c + 32 := by unfold lowC; rw [if_pos ⟨h1, h2⟩]
          have e32 : ((c + 32 : UInt8).toNat) = c.toNat + 32 := by rw [UInt8.toNat_add]; show (c.toNat + 32) % 256 = _; omega
          have w1 : IntKind.u8.wrap ((c.toNat : Int) + 97) = (c.toNat : Int) + 97 := IntWalk.u8_in _ (by omega)
          have w2 : IntKind.u8.wrap ((c.toNat : Int) + 97 - 65) = ((c + 32 : UInt8).toNat : Int) := by rw [IntWalk.u8_in _ (by omega), e32]; omega
          rw [el] at HS
          have HX := hid (HSET.out (c + 32))
          rw [HS.out] at HX
          clear HSET HS HK el e32
          go_wp2_with fail
          exact ⟨⟨k + 1, by simp, by omega, HX.out, Mod.set HN.out ⟨w.heap.size, k, none⟩ _ (.inr (Nat.le_refl _))⟩, by simp [intOf]; omega⟩
        · have h2I : ¬ (c.toNat : Int) ≤ 70 := by omega
          have el : lowC c = c := by unfold lowC; rw [if_neg (by omega)]
          have HX := hid (HK.out el)
          clear HSET HS HK el
          go_wp2_with fail
          exact ⟨⟨k + 1, by simp, by omega, by rw [← HX.out]; exact HB.out, HN.out⟩, by simp [intOf]; omega⟩
      · have h1I : ¬ (65 : Int) ≤ (c.toNat : Int) := by omega
        have el : lowC c = c := by unfold lowC; rw [if_neg (by omega)]
        have HX := hid (HK.out el)
        clear HSET HS HK el
        go_wp2_with fail
        exact ⟨⟨k + 1, by simp, by omega, by rw [← HX.out]; exact HB.out, HN.out⟩, by simp [intOf]; omega⟩
    · have hltI : ¬ (k : Int) < (s.size : Int) := by omega
      rw [lowK_all d (by omega)] at hb
      have hcv := hb.text s.size cap (by simp [hlen])
      have HFX := hid (fun W => fromHex_any ⟨(d.map lowC).toArray⟩ W (by show (d.map lowC).toArray.size ≤ _; simp; omega))
      rw [show (⟨(d.map lowC).toArray⟩ : ByteArray).data.toList = d.map lowC by simp] at HFX
      obtain ⟨T, hT⟩ : ∃ T : ByteArray, T = ⟨(d.map lowC).toArray⟩ := ⟨_, rfl⟩
      rw [← hT] at hcv HFX
      clear hT hb hn HB
      cases hx : hexC d with
      | none =>
        have HXX := hid hx
        obtain ⟨u1, u2⟩ := unhex_no hx
        rw [u1, u2] at HFX
        clear hx u1 u2
        go_wp2_with fail
        refine (HFX.out _).mono ?_
        rintro e w2 ⟨rfl, n2⟩
        have N2 := hid (HN.out.trans n2)
        clear n2
        go_wp2_with fail
        refine (need_no 2 _).mono ?_
        rintro e w3 ⟨rfl, rfl⟩
        go_wp2
        exact ⟨rfl, by rw [HXX.out]; rfl, N2.out⟩
      | some t =>
        have HXX := hid hx
        obtain ⟨u1, u2⟩ := unhex_yes hx
        rw [u1, u2] at HFX
        obtain ⟨X, hX⟩ : ∃ X : ByteArray, X = ⟨t.toArray⟩ := ⟨_, rfl⟩
        rw [← hX] at HFX
        have HX := hid hX
        clear hx u1 u2 hX
        go_wp2_with fail
        refine (HFX.out _).mono ?_
        rintro e w2 ⟨rfl, n2⟩
        have N2 := hid (HN.out.trans n2)
        clear n2
        go_wp2_with fail
        refine (need_yes 2 _).mono ?_
        rintro e w3 ⟨rfl, rfl⟩
        go_wp2
        go_ret
        exact ⟨by rw [HXX.out, HX.out]; rfl, N2.out⟩
end Go.Proofs.YtbgmkplpolgebaaGreatDoor

namespace Go.Proofs.YtbgmkplpolgebaaGreatDoor
set_option linter.unusedSimpArgs false
set_option linter.unusedVariables false
open Go.RowKit Go.Shelf

theorem two_cut (s : ByteArray) {k : Nat} (h : k + 2 < s.size) : (s.extract (k + 1) (k + 3)).data.toList = [s[k + 1], s[k + 2]] := by
  rw [ByteArray.data_extract, Array.toList_extract, List.extract_eq_take_drop]
  rw [List.drop_eq_getElem_cons (by rw [Array.length_toList]; show k + 1 < s.size; omega), List.drop_eq_getElem_cons (by rw [Array.length_toList]; show k + 1 + 1 < s.size; omega), show k + 3 - (k + 1) = 2 by omega]
  rfl
set_option maxRecDepth 100000 in
set_option maxHeartbeats 4000000 in
theorem unescaped_any (s : ByteArray) (w : World) (hs : s.size ≤ 4000000) : Calls Tryz.prog 72 #[.string s] w fun e w' => e = hexR (loose s.data.toList) ∧ New w w' := by
  have hlen : s.data.toList.length = s.size := by rw [Array.length_toList]; rfl
  obtain ⟨X, hX⟩ : ∃ X, X = loose s.data.toList := ⟨_, rfl⟩
  rw [← hX]
  have HFR := hid (Bld.fresh w)
  have HN0 : Hid (New w (w.alloc (.cells #[.pointer none, .slice none 0 0] 138))) := hid ((Mod.refl _ _).alloc _)
  have HL0 : Hid ((loose (s.data.toList.drop 0)).map (([] : List UInt8) ++ ·) = X) := hid (by rw [List.drop_zero, hX]; cases loose s.data.toList <;> rfl)
  clear hX
  go_enter Tryz.func72, Tryz.ntmps72
  go_wp2_with fail
  go_loopw [4] (fun x wr => ∃ (k : Nat) (acc : List UInt8), x = .int .i64 k ∧ k ≤ s.size ∧ acc.length ≤ k ∧ Bld wr w.heap.size acc ∧ (loose (s.data.toList.drop k)).map (acc ++ ·) = X ∧ New w wr) (fun x _ => s.size - (intOf x).toNat)
  case atStart => exact ⟨0, [], rfl, by omega, by simp, HFR.out, HL0.out, HN0.out⟩
  case round =>
    clear HFR HN0 HL0
    obtain ⟨k, acc, rfl, hk, hac, hbl, hl, hn⟩ := hrel
    have HBL := hid hbl; have HN := hid hn; have HL := hid hl
    have hbw := hbl.lt
    clear hbl hn hl
    by_cases hlt : k < s.size
    · have hltI : (k : Int) < (s.size : Int) := by omega
      have HD := hid (drop_at s hlt)
      rw [HD.out] at HL
      have hk1 : IntKind.i64.wrap ((k : Int) + 1) = (k : Int) + 1 := by rw [IntKind.wrap_i64]; omega
      have hk2 : IntKind.i64.wrap ((k : Int) + 2) = (k : Int) + 2 := by rw [IntKind.wrap_i64]; omega
      by_cases hc : s[k] = 37
      · have e0 : ((s[k].toNat : Int) != 37) = false := by rw [hc]; rfl
        rw [hc] at HL
        clear hc
        by_cases h2 : s.size ≤ k + 2
        · have HXN := hid (loose_short HL.out (by rw [List.length_drop, hlen]; omega))
          have hge : decide ((k : Int) + 2 < (s.size : Int)) = false := decide_eq_false (by omega)
          have hge2 : ¬ (k : Int) + 2 < (s.size : Int) := by omega
          go_wp2_with fail
          refine (need_no 2 _).mono ?_
          rintro e w3 ⟨rfl, rfl⟩
          go_wp2
          exact ⟨rfl, by rw [HXN.out]; rfl, HN.out⟩
        · have hge : decide ((k : Int) + 2 < (s.size : Int)) = true := decide_eq_true (by omega)
          have hge2 : (k : Int) + 2 < (s.size : Int) := by omega
          have HD1 := hid (drop_at s (show k + 1 < s.size by omega)); have HD2 := hid (drop_at s (show k + 2 < s.size by omega))
          rw [HD1.out, HD2.out] at HL
          have hk3 : IntKind.i64.wrap ((k : Int) + 3) = (k : Int) + 3 := by rw [IntKind.wrap_i64]; omega
          have hk4 : IntKind.i64.wrap ((k : Int) + 2 + 1) = (k : Int) + 2 + 1 := by rw [IntKind.wrap_i64]; omega
          have pa : (0 : Int) ≤ (k : Int) + 1 := by omega
          have pb : (k : Int) + 1 ≤ (k : Int) + 3 := by omega
          have pc : (k : Int) + 3 ≤ (s.size : Int) := by omega
          have na : ((k : Int) + 1).toNat = k + 1 := by omega
          have nb : ((k : Int) + 3).toNat = k + 3 := by omega
          have HHX := hid (fun W => hexed_any (s.extract (k + 1) (k + 3)) W (by rw [ByteArray.size_extract]; omega))
          rw [two_cut s (by omega)] at HHX
          obtain ⟨CB, hCB⟩ : ∃ CB, CB = s.extract (k + 1) (k + 3) := ⟨_, rfl⟩
          cases hx : hexC [s[k + 1], s[k + 2]] with
          | none =>
            have HXN := hid (loose_bad HL.out hx)
            rw [hx, hexR] at HHX
            clear hx
            go_wp2_with fail
            refine (need_yes 2 _).mono ?_
            rintro e w3 ⟨rfl, rfl⟩
            go_wp2_with fail
            refine (HHX.out _).mono ?_
            rintro e w4 ⟨rfl, n4⟩
            have N4 := hid (HN.out.trans n4)
            clear n4
            go_wp2
            exact ⟨rfl, by rw [HXN.out]; rfl, N4.out⟩
          | some x =>
            have HST := hid (loose_step3 HL.out hx)
            have hxl : x.length = 1 := by
              rw [hexC_two] at hx
              split at hx
              · cases hx; rfl
              · cases hx
            rw [hx, hexR] at HHX
            have HWR := hid (fun W (q : Bld W w.heap.size acc) => write_any w.heap.size acc ⟨x.toArray⟩ W q (by rw [size_list]; omega))
            rw [show (⟨x.toArray⟩ : ByteArray).data.toList = x by simp] at HWR
            clear hx
            go_wp2_with fail
            refine (need_yes 2 _).mono ?_
            rintro e w3 ⟨rfl, rfl⟩
            go_wp2_with fail
            refine (HHX.out _).mono ?_
            rintro e w4 ⟨rfl, n4⟩
            have B4 := hid (HBL.out.new n4)
            have N4 := hid (HN.out.trans n4)
            clear n4
            go_wp2_with fail
            refine (HWR.out _ B4.out).mono ?_
            rintro e w5 ⟨rfl, b5, n5⟩
            have B5 := hid b5
            have N5 := hid (Wrote.new N4.out n5 (Nat.le_refl _))
            clear b5 n5
            go_wp2_with fail
            exact ⟨⟨k + 3, acc ++ x, by simp; omega, by omega, by simp; omega, B5.out, HST.out, N5.out⟩, by simp [intOf]; omega⟩
      · have e0 : ((s[k].toNat : Int) != 37) = true := by
          rw [bne_iff_ne]
          intro q
          exact hc (UInt8.toNat_inj.1 (by show s[k].toNat = 37; omega))
        have HST := hid (loose_step HL.out hc)
        clear hc
        go_wp2_with fail
        refine (byte_any w.heap.size acc s[k] _ HBL.out (by omega)).mono ?_
        rintro e w4 ⟨rfl, b4, n4⟩
        have B4 := hid b4
        have N4 := hid (Wrote.new HN.out n4 (Nat.le_refl _))
        clear b4 n4
        go_wp2_with fail
        exact ⟨⟨k + 1, acc ++ [s[k]], by simp, by omega, by simp; omega, B4.out, HST.out, N4.out⟩, by simp [intOf]; omega⟩
    · have hltI : ¬ (k : Int) < (s.size : Int) := by omega
      have HXS : Hid (X = some acc) := hid (by rw [← HL.out, List.drop_of_length_le (by omega), loose_nil]; simp)
      go_wp2_with fail
      refine (string_any w.heap.size acc _ HBL.out).mono ?_
      rintro e w4 ⟨rfl, b4, n4⟩
      have N4 := hid (Wrote.new HN.out n4 (Nat.le_refl _))
      clear b4 n4
      go_wp2
      go_ret
      exact ⟨by rw [HXS.out]; rfl, N4.out⟩
end Go.Proofs.YtbgmkplpolgebaaGreatDoor

namespace Go.Proofs.YtbgmkplpolgebaaGreatDoor
set_option linter.unusedSimpArgs false
set_option linter.unusedVariables false
open Go.RowKit Go.Shelf

end Go.Proofs.YtbgmkplpolgebaaGreatDoor

namespace Go.Proofs.YtbgmkplpolgebaaGreatDoor
set_option linter.unusedSimpArgs false
set_option linter.unusedVariables false
open Go.RowKit Go.MapKept

/-- Block b is a map; its entries are just those of L. -/
def FunAt (w : World) (b : Nat) (L : List (ByteArray × Value)) : Prop :=
  ∃ es clock, w.heap[b]? = some (.map es clock) ∧ (∀ x ∈ es.toList, IsKey .string x.key) ∧ ∀ (s : ByteArray) v, (∃ x ∈ es.toList, x.key = .string s ∧ x.val = v) ↔ (s, v) ∈ L
theorem FunAt.of_heap {w w' : World} {b : Nat} {S : List (ByteArray × Value)} (h : FunAt w b S) (e : w'.heap[b]? = w.heap[b]?) : FunAt w' b S := by
  obtain ⟨es, clock, hb, h1, h2⟩ := h
  exact ⟨es, clock, e.trans hb, h1, h2⟩
theorem FunAt.lt {w : World} {b : Nat} {S : List (ByteArray × Value)} (h : FunAt w b S) : b < w.heap.size := by
  obtain ⟨es, clock, hb, -⟩ := h
  exact (Array.getElem?_eq_some_iff.1 hb).1
theorem FunAt.new {w w' : World} {b : Nat} {S : List (ByteArray × Value)} (h : FunAt w b S) (n : New w w') : FunAt w' b S := h.of_heap (n.block b h.lt (fun x => x))
theorem FunAt.made (w : World) : FunAt (w.alloc (.map #[] 0)) w.heap.size [] :=
  ⟨#[], 0, (MapKept.heap_alloc w _).1, by simp, by simp⟩
theorem fkey_is (s : ByteArray) : IsKey .string (.string s) := by simp [IsKey]
theorem Mod.setObjF {w : World} {b : Nat} (o : Obj) : Mod (· = b) w { w with heap := w.heap.setIfInBounds b o } :=
  ⟨rfl, rfl, rfl, by simp, fun k hk hn => by simp [Ne.symm hn]⟩
theorem FunAt.update {P : Program} {w : World} {b : Nat} {S : List (ByteArray × Value)} {t k e : TypeId} (h : FunAt w b S) (ht : P.underlying t = some (.map k e)) (hk : P.underlying k = some .string) (s : ByteArray) (v : Value) (hn : ∀ v, (s, v) ∉ S) :
    ∃ w', (Instr.mapUpdate t (.map (some b)) (.string s) v).run P w = .ok () w' ∧ FunAt w' b ((s, v) :: S) ∧ Mod (· = b) w w' := by
  obtain ⟨es, clock, hb, h1, h2⟩ := h
  rcases findNow_spec (fkey_is s) es.toList 0 h1 with ⟨f1, f2⟩ | ⟨j, x, f1, f2, f3⟩
  · refine ⟨_, by simp [Instr.mapUpdate, run_underlying ht, MapKept.run_getObj_map hb, MapKept.run_checkKey hk (fkey_is s), MapKept.run_findKey hk f1, MapKept.run_setObj_map _ hb, Result.andThen]; rfl, ⟨_, _, (MapKept.heap_set hb).1, ?_, ?_⟩, Mod.setObjF _⟩
    · intro x hx
      simp only [Array.toList_push, List.mem_append, List.mem_singleton] at hx
      rcases hx with hx | rfl
      · exact h1 x hx
      · exact fkey_is s
    · intro s' v'
      simp only [Array.toList_push, List.mem_append, List.mem_cons, List.not_mem_nil, or_false, Prod.mk.injEq]
      constructor
      · rintro ⟨x, hx | rfl, e1, e2⟩
        · exact .inr ((h2 s' v').1 ⟨x, hx, e1, e2⟩)
        · simp at e1 e2
          exact .inl ⟨e1.symm, e2.symm⟩
      · rintro (⟨rfl, rfl⟩ | hs)
        · exact ⟨_, .inr rfl, rfl, rfl⟩
        · obtain ⟨x, hx, e1, e2⟩ := (h2 s' v').2 hs
          exact ⟨x, .inl hx, e1, e2⟩
  · have hx := List.mem_of_getElem? f2
    exact absurd ((h2 s x.val).1 ⟨x, hx, f3, rfl⟩) (hn _)
end Go.Proofs.YtbgmkplpolgebaaGreatDoor
