/-
  Several texts in one, in their build order. The walks of need, caught, hexed (package magnet). Condition: the text is no longer than the bound. The walk of Escape (the reference). Condition: the text is small.
-/
import Derived.Test.YtbgmkplpolgebaaGreatDoorM5
import Derived.Test.YtbgmkplpolgebaaGreatDoorM4
import Derived.Defers
import Derived.Recover
namespace Go.Proofs.YtbgmkplpolgebaaGreatDoor
set_option linter.unusedSimpArgs false
set_option linter.unusedVariables false
open Go.RowKit Go.Shelf

/-- What a call stops with. -/
def toldM (k : Int) : List PanicEntry := [{ v := .iface 94 (.int .i64 k), recovered := false }]
theorem need_no (k : Int) (w : World) : Calls Tryz.prog 23 #[.bool false, .int .i64 k] w fun e w' => e = .panicked (toldM k) ∧ w = w' := by
  go_enter Tryz.func23, Tryz.ntmps23
  go_wp2
  exact ⟨rfl, rfl, rfl⟩
theorem need_yes (k : Int) (w : World) : Calls Tryz.prog 23 #[.bool true, .int .i64 k] w fun e w' => e = .returned (.tuple #[]) ∧ w = w' := by
  go_enter Tryz.func23, Tryz.ntmps23
  go_wp2
  go_end0
  exact ⟨rfl, rfl⟩
theorem caught_idle (p : Addr) (w : World) :
    CallsD Tryz.prog 21 #[.pointer (some p)] .returning w fun e u' w' => e = .returned (.tuple #[]) ∧ u' = .returning ∧ w' = w := by
  refine callsD_of_wpS Tryz.func21 rfl fun c₀ cs hu => ?_
  apply wpS_seq
  apply wpS_region
  simp [wpOpsS, go_sem, recoverD, hu, Tryz.ntmps21, Exit.thenS]
  apply wpS_seq
  refine wpS_of_wp ?_
  go_wp2
  refine wpS_cond (t := false) (by simp [Act.eval, Array.replicate]) ?_
  simp only [Bool.false_eq_true, if_false]
  refine wpS_of_wp (wp_skip ?_)
  cases c₀
  simp_all [bodyPostS, results, Tryz.results21]
set_option maxRecDepth 100000 in
set_option maxHeartbeats 1000000 in
theorem caught_told (q : Nat) (k : Int) (w : World) (hq : Blk w q #[.int .i64 0] 28) :
    CallsD Tryz.prog 21 #[.pointer (some ⟨q, 0, none⟩)] (.panicking (toldM k)) w fun e u' w' =>
      e = .returned (.tuple #[]) ∧ u' = .panicking [{ v := .iface 94 (.int .i64 k), recovered := true }] ∧ Blk w' q #[.int .i64 k] 28 ∧ Mod (fun j => j = q) w w' := by
  obtain ⟨q1, q2, q3⟩ := hq.one
  have HQ := hid hq
  clear hq
  unfold toldM
  have hta : ∀ (x : Int) (w : World), (Instr.typeAssert (.iface 94 (.int .i64 x)) 20 94 true).run Tryz.prog w = .ok (.tuple #[.int .i64 x, .bool true]) w := fun _ _ => by simp [Instr.typeAssert, run_underlying Tryz.underlying94, Result.andThen]
  refine callsD_of_wpS Tryz.func21 rfl fun c₀ cs hu => ?_
  apply wpS_seq
  apply wpS_region
  simp [wpOpsS, go_sem, recoverD, hu, Tryz.ntmps21, Exit.thenS, show Array.replicate 18 undef = #[undef, undef, undef, undef, undef, undef, undef, undef, undef, undef, undef, undef, undef, undef, undef, undef, undef, undef] from rfl, show Array.replicate 19 undef = #[undef, undef, undef, undef, undef, undef, undef, undef, undef, undef, undef, undef, undef, undef, undef, undef, undef, undef, undef] from rfl]
  apply wpS_seq
  refine wpS_of_wp ?_
  go_wp2
  refine wpS_cond (t := true) (by simp [Act.eval, Array.replicate]) ?_
  simp only [if_true]
  refine wpS_of_wp ?_
  go_wp2
  refine ⟨rfl, .panicking [{ v := .iface 94 (.int .i64 k), recovered := true }], ?_, .tuple #[], by simp [results, Tryz.results21], rfl, rfl, ?_, ?_⟩
  · first | rfl | (simp; done) | (cases c₀; simp_all)
  · apply Blk.row
    · repeat (first | with_reducible exact HQ.out | (with_reducible apply Blk.newAt; (simp; done)) | with_reducible apply Blk.alloc | with_reducible apply Blk.drew | with_reducible apply Blk.drewN | with_reducible apply Blk.set | (with_reducible apply Blk.other; · first | (simp; done) | (simp; omega) | omega) | (with_reducible apply Blk.putObj; · first | (simp; done) | (simp; omega) | omega))
    · rfl
  · repeat (first | with_reducible exact Mod.refl _ _ | with_reducible refine Mod.alloc ?_ _ | with_reducible refine Mod.drew ?_ | with_reducible refine Mod.drewN ?_ _ | (with_reducible refine Mod.set ?_ _ _ (by first | exact .inl rfl | (right; omega) | (right; simp; done) | (right; simp; omega) | (left; omega) | (left; simp; done) | (left; simp; omega))) | (with_reducible refine Mod.putObj ?_ _ _ (by first | exact .inl rfl | (right; omega) | (right; simp; done) | (right; simp; omega) | (left; omega) | (left; simp; done) | (left; simp; omega))))
/-- Digits made small from the left. -/
def lowK (d : List UInt8) (k : Nat) : List UInt8 := (d.take k).map lowC ++ d.drop k
theorem lowK_len (d : List UInt8) (k : Nat) : (lowK d k).length = d.length := by unfold lowK; simp; omega
theorem lowK_pre {d : List UInt8} {k : Nat} (h : k < d.length) : ((d.take k).map lowC).length = k := by rw [List.length_map, List.length_take]; omega
theorem lowK_at {d : List UInt8} {k : Nat} (h : k < d.length) : (lowK d k)[k]'(by rw [lowK_len]; exact h) = d[k] := by
  unfold lowK
  rw [List.getElem_append_right (by rw [lowK_pre h]; exact Nat.le_refl _), List.getElem_drop]
  congr 1
  rw [lowK_pre h]; omega
theorem lowK_next {d : List UInt8} {k : Nat} (h : k < d.length) : (lowK d k).set k (lowC d[k]) = lowK d (k + 1) := by
  unfold lowK
  rw [List.set_append_right _ _ (by rw [lowK_pre h]; exact Nat.le_refl _), lowK_pre h, Nat.sub_self, List.drop_eq_getElem_cons h, List.set_cons_zero, List.take_add_one, List.getElem?_eq_getElem h, List.map_append]
  simp only [Option.toList, List.map_cons, List.map_nil, List.append_assoc, List.cons_append, List.nil_append]
theorem lowK_keep {d : List UInt8} {k : Nat} (h : k < d.length) (hc : lowC d[k] = d[k]) : lowK d k = lowK d (k + 1) := by
  unfold lowK
  rw [List.drop_eq_getElem_cons h, List.take_add_one, List.getElem?_eq_getElem h, List.map_append]
  simp only [Option.toList, List.map_cons, List.map_nil, List.append_assoc, List.cons_append, List.nil_append, hc]
theorem lowK_zero (d : List UInt8) : lowK d 0 = d := by simp [lowK]
theorem lowK_all (d : List UInt8) {k : Nat} (h : d.length ≤ k) : lowK d k = d.map lowC := by
  unfold lowK
  rw [List.take_of_length_le h, List.drop_of_length_le h, List.append_nil]
/-- What hexed answers. -/
def hexR : Option (List UInt8) → Ending
  | some x => .returned (.string ⟨x.toArray⟩)
  | none => .panicked (toldM 2)
set_option maxRecDepth 100000 in
set_option maxHeartbeats 4000000 in
theorem hexed_any (s : ByteArray) (w : World) (hs : s.size ≤ 65536) : Calls Tryz.prog 127 #[.string s] w fun e w' => e = hexR (hexC s.data.toList) ∧ New w w' := by
  have hlen : s.data.toList.length = s.size := by rw [Array.length_toList]; rfl
  have hcw := bytes_of w s
  obtain ⟨cap, hcap⟩ : ∃ cap, cap = grownCap w s.size 0 5 := ⟨_, rfl⟩
  have HBY := hid (bytes_lie w s rfl)
  have HBN := hid (bytes_new w s)
  rw [← hcap] at hcw
  obtain ⟨W, hW⟩ : ∃ W, W = afterBytes w s := ⟨_, rfl⟩
  rw [← hW] at hcw HBY HBN
  clear hW hcap
  obtain ⟨d, hd⟩ : ∃ d, d = s.data.toList := ⟨_, rfl⟩
  rw [← hd] at HBY hlen
  rw [← hd]
  clear hd
  go_enter Tryz.func127, Tryz.ntmps127
  go_wp2_with fail
  go_loopw [12] (fun x wr => ∃ (k : Nat), x = .int .i64 k ∧ k ≤ s.size ∧ ByAt wr w.heap.size (lowK d k) ∧ New w wr) (fun x _ => s.size - (intOf x).toNat)
  case atStart => exact ⟨0, rfl, by omega, by rw [lowK_zero]; exact HBY.out, HBN.out⟩
  case round =>
    clear HBY HBN
    obtain ⟨k, rfl, hk, hb, hn⟩ := hrel
    have HB := hid hb; have HN := hid hn
    by_cases hlt : k < s.size
    · have hltI : (k : Int) < (s.size : Int) := by omega
      have hkd : k < d.length := by omega
      have hc := hb.cell (i := k) (by rw [lowK_len]; exact hkd)
      have hf := hb.frz (i := k) (by rw [lowK_len]; exact hkd)
      rw [lowK_at hkd] at hc
      have hbl := hb.lt
      clear hb hn
      obtain ⟨c, hcc⟩ : ∃ c, c = d[k] := ⟨_, rfl⟩
      have HS := hid (lowK_next hkd)
      have HK := hid (lowK_keep hkd)
      have HSET := hid (fun b => HB.out.set (i := k) (by rw [lowK_len]; exact hkd) b)
      rw [← hcc] at hc HS HK
      have hc255 := c.toNat_lt
      clear hcc
      by_cases h1 : 65 ≤ c.toNat
      · have h1I : (65 : Int) ≤ (c.toNat : Int) := by omega
        by_cases h2 : c.toNat ≤ 70
        · have h2I : (c.toNat : Int) ≤ 70 := by omega
          have el : lowC c = c + 32 := by unfold lowC; rw [if_pos ⟨h1, h2⟩]
          have e32 : ((c + 32 : UInt8).toNat) = c.toNat + 32 := by rw [UInt8.toNat_add]; show (c.toNat + 32) % 256 = _; omega
          have w1 : IntKind.u8.wrap ((c.toNat : Int) + 97) = (c.toNat : Int) + 97 := IntWalk.u8_in _ (by omega)
          have w2 : IntKind.u8.wrap ((c.toNat : Int) + 97 - 65) = ((c + 32 : UInt8).toNat : Int) := by rw [IntWalk.u8_in _ (by omega), e32]; omega
          rw [el] at HS
          have HX := hid (HSET.out (c + 32))
          rw [HS.out] at HX
          clear HSET HS HK el e32
          go_wp2_with fail
          exact ⟨⟨k + 1, by simp, by omega, HX.out, Mod.set HN.out ⟨w.heap.size, k, none⟩ _ (.inr (Nat.le_refl _))⟩, by simp [intOf]; omega⟩
        · have h2I : ¬ (c.toNat : Int) ≤ 70 := by omega
          have el : lowC c = c := by unfold lowC; rw [if_neg (by omega)]
          have HX := hid (HK.out el)
          clear HSET HS HK el
          go_wp2_with fail
          exact ⟨⟨k + 1, by simp, by omega, by rw [← HX.out]; exact HB.out, HN.out⟩, by simp [intOf]; omega⟩
      · have h1I : ¬ (65 : Int) ≤ (c.toNat : Int) := by omega
        have el : lowC c = c := by unfold lowC; rw [if_neg (by omega)]
        have HX := hid (HK.out el)
        clear HSET HS HK el
        go_wp2_with fail
        exact ⟨⟨k + 1, by simp, by omega, by rw [← HX.out]; exact HB.out, HN.out⟩, by simp [intOf]; omega⟩
    · have hltI : ¬ (k : Int) < (s.size : Int) := by omega
      rw [lowK_all d (by omega)] at hb
      have hcv := hb.text s.size cap (by simp [hlen])
      have HFX := hid (fun W => fromHex_any ⟨(d.map lowC).toArray⟩ W (by show (d.map lowC).toArray.size ≤ _; simp; omega))
      rw [show (⟨(d.map lowC).toArray⟩ : ByteArray).data.toList = d.map lowC by simp] at HFX
      obtain ⟨T, hT⟩ : ∃ T : ByteArray, T = ⟨(d.map lowC).toArray⟩ := ⟨_, rfl⟩
      rw [← hT] at hcv HFX
      clear hT hb hn HB
      cases hx : hexC d with
      | none =>
        have HXX := hid hx
        obtain ⟨u1, u2⟩ := unhex_no hx
        rw [u1, u2] at HFX
        clear hx u1 u2
        go_wp2_with fail
        refine (HFX.out _).mono ?_
        rintro e w2 ⟨rfl, n2⟩
        have N2 := hid (HN.out.trans n2)
        clear n2
        go_wp2_with fail
        refine (need_no 2 _).mono ?_
        rintro e w3 ⟨rfl, rfl⟩
        go_wp2
        exact ⟨rfl, by rw [HXX.out]; rfl, N2.out⟩
      | some t =>
        have HXX := hid hx
        obtain ⟨u1, u2⟩ := unhex_yes hx
        rw [u1, u2] at HFX
        obtain ⟨X, hX⟩ : ∃ X : ByteArray, X = ⟨t.toArray⟩ := ⟨_, rfl⟩
        rw [← hX] at HFX
        have HX := hid hX
        clear hx u1 u2 hX
        go_wp2_with fail
        refine (HFX.out _).mono ?_
        rintro e w2 ⟨rfl, n2⟩
        have N2 := hid (HN.out.trans n2)
        clear n2
        go_wp2_with fail
        refine (need_yes 2 _).mono ?_
        rintro e w3 ⟨rfl, rfl⟩
        go_wp2
        go_ret
        exact ⟨by rw [HXX.out, HX.out]; rfl, N2.out⟩
end Go.Proofs.YtbgmkplpolgebaaGreatDoor

namespace Go.Proofs.YtbgmkplpolgebaaGreatDoor
set_option linter.unusedSimpArgs false
set_option linter.unusedVariables false
open Go.RowKit Go.Shelf

end Go.Proofs.YtbgmkplpolgebaaGreatDoor
