/-
  Several texts in one, in their build order. The walks of a crier's small functions (package local): asked, at, due, Last. Conditions: the crier lies as told. The order in which a crier's names wait: those that were told first, and of these the lesser: an order, whatever was told when. Plain Lean, no program. No condition. The library's variables; Atoi of whatever text; a list of texts that the call makes. Conditions as told.
-/
import Derived.Test.YtnflhjagmngimaaGreatDoorM8
import Derived.Test.YtnflhjagmngimaaGreatDoorM2
import Derived.Lib.Bytealg
import Derived.Shelf.SlSortCmp.Whole1
import Derived.Test.YtnflhjagmngimaaGreatDoorM4
import Derived.Lib.SmallJoins
namespace Go.Proofs.YtnflhjagmngimaaGreatDoor
set_option linter.unusedSimpArgs false
set_option linter.unusedVariables false
open Go.RowKit Go.Shelf

def askE (k : ByteArray) : Int := if k.size = 20 then 0 else 1
def CrV.atE (c : CrV) (t : Int) : Int := if t < c.now ∨ 1000000000 < t then 7 else 0
set_option maxHeartbeats 1000000 in
theorem asked_any (B : Nat) (k : ByteArray) (w : World) (hs : k.size ≤ maxLen) : Calls Tryz.prog 35 #[.pointer (some ⟨B, 0, none⟩), .string k] w fun e w' => e = .returned (.int .i64 (askE k)) ∧ w = w' := by
  unfold maxLen at hs
  unfold askE
  by_cases h : k.size = 20
  · have e1 : ((k.size : Int) == 20) = true := by rw [beq_iff_eq]; omega
    have e2 : ((k.size : Int) != 20) = false := by rw [bne, e1]; rfl
    rw [if_pos h]
    clear h
    go_enter Tryz.func35, Tryz.ntmps35
    go_wp2
    go_ret
    exact ⟨rfl, rfl⟩
  · have e1 : ((k.size : Int) == 20) = false := by rw [beq_eq_false_iff_ne]; omega
    have e2 : ((k.size : Int) != 20) = true := by rw [bne, e1]; rfl
    rw [if_neg h]
    clear h
    go_enter Tryz.func35, Tryz.ntmps35
    go_wp2
    go_ret
    exact ⟨rfl, rfl⟩
set_option maxHeartbeats 1000000 in
theorem crAt_any (B M H : Nat) (c : CrV) (t : Int) (w : World) (h : CrAt w B M H c) : Calls Tryz.prog 36 #[.pointer (some ⟨B, 0, none⟩), .int .i64 t] w fun e w' => e = .returned (.int .i64 (c.atE t)) ∧ w = w' := by
  have c0 : w.cell? ⟨B, 0, none⟩ = some (.int .i64 c.now) := h.row.cellv 0 rfl
  have cl := h.row.lt
  obtain ⟨N, hN⟩ : ∃ N, N = c.now := ⟨_, rfl⟩
  unfold CrV.atE
  rw [← hN] at c0 ⊢
  clear h hN
  by_cases g : t < N
  · rw [if_pos (.inl g)]
    go_enter Tryz.func36, Tryz.ntmps36
    go_wp2
    go_ret
    exact ⟨rfl, rfl⟩
  · by_cases g2 : 1000000000 < t
    · rw [if_pos (.inr g2)]
      go_enter Tryz.func36, Tryz.ntmps36
      go_wp2
      go_ret
      exact ⟨rfl, rfl⟩
    · rw [if_neg (by omega)]
      go_enter Tryz.func36, Tryz.ntmps36
      go_wp2
      go_ret
      exact ⟨rfl, rfl⟩
set_option maxRecDepth 100000 in
set_option maxHeartbeats 2000000 in
theorem due_any (B M H : Nat) (c : CrV) (k : ByteArray) (w : World) (h : CrAt w B M H c) (ho : CrOk c) : Calls Tryz.prog 38 #[.pointer (some ⟨B, 0, none⟩), .string k] w fun e w' => e = .returned (.int .i64 (dueT c.every (c.last k))) ∧ New w w' := by
  have c3 : w.cell? ⟨B, 3, none⟩ = some (.int .i64 c.every) := h.row.cellv 3 rfl
  have c4 : w.cell? ⟨B, 4, none⟩ = some (.map (some M)) := h.row.cellv 4 rfl
  have cl := h.row.lt
  have lk := h.names.look k
  have lkd := (h.names.new (Mod.drew (Mod.refl _ _))).look k
  obtain ⟨L, hL⟩ : ∃ L, L = c.last k := ⟨_, rfl⟩
  obtain ⟨E, hE⟩ : ∃ E, E = c.every := ⟨_, rfl⟩
  have hl := ho.last k; have he := ho.every
  rw [← hL] at lk lkd hl ⊢
  rw [← hE] at c3 he ⊢
  clear h ho hL hE
  have hwE : IntKind.i64.wrap (L + E) = L + E := by rw [IntKind.wrap_i64]; omega
  unfold dueT
  by_cases g : L < 0
  · rw [if_pos g]
    go_enter Tryz.func38, Tryz.ntmps38
    go_wp2
    go_ret
    exact ⟨rfl, Mod.refl _ _⟩
  · rw [if_neg g]
    go_enter Tryz.func38, Tryz.ntmps38
    go_wp2_with fail
    refine wp_region_held_drew (S := (fun w' => w'.cell? ⟨B, 3, none⟩ = some (.int .i64 E) ∧ w'.cell? ⟨B, 4, none⟩ = some (.map (some M)) ∧ (Instr.lookup 60 (.map (some M)) (.string k) false).run Tryz.prog w' = .ok (.int .i64 L) w')) (by kernel_rfl) ⟨c3, c4, lkd⟩ (fun hHeld => ?_)
    refine tk (v := ?_) 0 ?_ ?_
    rotate_left
    · intro w hSw
      (try dsimp only at hSw)
      first | (go_simp; done) | (go_simp; with_reducible rfl) | with_reducible rfl
    simp only [Act.put, List.setIfInBounds_toArray, List.set_cons_zero, List.set_cons_succ]
    refine tk (v := ?_) 1 ?_ ?_
    rotate_left
    · intro w hSw
      (try dsimp only at hSw)
      first | (go_simp; done) | (go_simp; with_reducible rfl) | with_reducible rfl
    simp only [Act.put, List.setIfInBounds_toArray, List.set_cons_zero, List.set_cons_succ]
    refine tk (v := ?_) 2 ?_ ?_
    rotate_left
    · intro w hSw
      (try dsimp only at hSw)
      first | (go_simp; done) | (go_simp; with_reducible rfl) | with_reducible rfl
    simp only [Act.put, List.setIfInBounds_toArray, List.set_cons_zero, List.set_cons_succ]
    refine tk (v := ?_) 3 ?_ ?_
    rotate_left
    · intro w hSw
      (try dsimp only at hSw)
      first | (go_simp; done) | (go_simp; with_reducible rfl) | with_reducible rfl
    simp only [Act.put, List.setIfInBounds_toArray, List.set_cons_zero, List.set_cons_succ]
    refine tk (v := ?_) 4 ?_ ?_
    rotate_left
    · intro w hSw
      (try dsimp only at hSw)
      first | (go_simp; done) | (go_simp; with_reducible rfl) | with_reducible rfl
    simp only [Act.put, List.setIfInBounds_toArray, List.set_cons_zero, List.set_cons_succ]
    refine tk (v := ?_) 5 ?_ ?_
    rotate_left
    · intro w hSw
      (try dsimp only at hSw)
      first | (go_simp; done) | (go_simp; with_reducible rfl) | with_reducible rfl
    simp only [Act.put, List.setIfInBounds_toArray, List.set_cons_zero, List.set_cons_succ]
    refine tk (v := ?_) 6 ?_ ?_
    rotate_left
    · intro w hSw
      (try dsimp only at hSw)
      first | (go_simp; done) | (go_simp; with_reducible rfl) | with_reducible rfl
    simp only [Act.put, List.setIfInBounds_toArray, List.set_cons_zero, List.set_cons_succ]
    refine tk (v := ?_) 7 ?_ ?_
    rotate_left
    · intro w hSw
      (try dsimp only at hSw)
      first | (go_simp; done) | (go_simp; with_reducible rfl) | with_reducible rfl
    simp only [Act.put, List.setIfInBounds_toArray, List.set_cons_zero, List.set_cons_succ]
    refine tk (v := ?_) 8 ?_ ?_
    rotate_left
    · intro w hSw
      (try dsimp only at hSw)
      first | (go_simp; done) | (go_simp; with_reducible rfl) | with_reducible rfl
    simp only [Act.put, List.setIfInBounds_toArray, List.set_cons_zero, List.set_cons_succ]
    refine tk (v := ?_) 9 ?_ ?_
    rotate_left
    · intro w hSw
      (try dsimp only at hSw)
      first | (go_simp; done) | (go_simp; with_reducible rfl) | with_reducible rfl
    simp only [Act.put, List.setIfInBounds_toArray, List.set_cons_zero, List.set_cons_succ]
    refine tk (v := ?_) 10 ?_ ?_
    rotate_left
    · intro w hSw
      (try dsimp only at hSw)
      first | (go_simp; done) | (go_simp; with_reducible rfl) | with_reducible rfl
    simp only [Act.put, List.setIfInBounds_toArray, List.set_cons_zero, List.set_cons_succ]
    refine tk (v := ?_) 11 ?_ ?_
    rotate_left
    · intro w hSw
      (try dsimp only at hSw)
      first | (go_simp; done) | (go_simp; with_reducible rfl) | with_reducible rfl
    simp only [Act.put, List.setIfInBounds_toArray, List.set_cons_zero, List.set_cons_succ]
    refine wpAnyH_done (by kernel_rfl) ?_ _
    go_wp2
    go_ret
    exact ⟨by simp [hwE], Mod.drew (Mod.refl _ _)⟩
def CrV.lastE (c : CrV) (k : ByteArray) : Int := if k.size = 20 then (if inB c.all k ∧ 0 ≤ c.last k then 0 else 8) else 1
def CrV.lastR (c : CrV) (k : ByteArray) : Int := if c.lastE k = 0 then c.last k else 0
set_option maxRecDepth 100000 in
set_option maxHeartbeats 2000000 in
theorem cLast_any (B M H : Nat) (c : CrV) (k : ByteArray) (w : World) (h : CrAt w B M H c) (hs : k.size ≤ maxLen) : Calls Tryz.prog 12 #[.pointer (some ⟨B, 0, none⟩), .string k] w fun e w' => e = .returned (.tuple #[.int .i64 (c.lastR k), .int .i64 (c.lastE k)]) ∧ New w w' := by
  have c4 : w.cell? ⟨B, 4, none⟩ = some (.map (some M)) := h.row.cellv 4 rfl
  have cl := h.row.lt
  have lk := h.names.look2 k
  have HA := hid (asked_any B k w hs)
  obtain ⟨L, hL⟩ : ∃ L, L = c.last k := ⟨_, rfl⟩
  unfold CrV.lastR CrV.lastE
  rw [← hL] at lk ⊢
  clear h hL
  unfold askE at HA
  by_cases g : k.size = 20
  · rw [if_pos g] at HA ⊢
    clear g
    cases hb : inB c.all k with
    | false =>
      rw [hb] at lk
      simp only [Bool.false_eq_true, false_and, if_false]
      clear hb
      go_enter Tryz.func12, Tryz.ntmps12
      go_wp2_with fail
      refine HA.out.mono ?_
      rintro e w' ⟨rfl, rfl⟩
      go_wp2
      go_ret2
      exact ⟨rfl, Mod.refl _ _⟩
    | true =>
      rw [hb] at lk
      clear hb
      by_cases g2 : L < 0
      · have e0 : ¬ (true = true ∧ 0 ≤ L) := fun q => absurd q.2 (by omega)
        rw [if_neg e0]
        rw [if_neg (show ¬ (8 : Int) = 0 by decide)]
        clear e0
        have e9 : decide (L < 0) = true := decide_eq_true g2
        go_enter Tryz.func12, Tryz.ntmps12
        go_wp2_with fail
        refine HA.out.mono ?_
        rintro e w' ⟨rfl, rfl⟩
        go_wp2
        go_ret2
        exact ⟨rfl, Mod.refl _ _⟩
      · have e0 : true = true ∧ 0 ≤ L := ⟨rfl, by omega⟩
        simp only [if_pos e0, if_true]
        clear e0
        have e9 : decide (L < 0) = false := decide_eq_false g2
        go_enter Tryz.func12, Tryz.ntmps12
        go_wp2_with fail
        refine HA.out.mono ?_
        rintro e w' ⟨rfl, rfl⟩
        go_wp2
        all_goals
          go_ret2
          exact ⟨rfl, Mod.refl _ _⟩
  · rw [if_neg g] at HA ⊢
    rw [if_neg (by decide)]
    clear g
    go_enter Tryz.func12, Tryz.ntmps12
    go_wp2_with fail
    refine HA.out.mono ?_
    rintro e w' ⟨rfl, rfl⟩
    go_wp2
    go_ret2
    exact ⟨rfl, Mod.refl _ _⟩
end Go.Proofs.YtnflhjagmngimaaGreatDoor

namespace Go.Proofs.YtnflhjagmngimaaGreatDoor
set_option linter.unusedSimpArgs false
set_option linter.unusedVariables false
open Go.Sort

theorem cb_self : ∀ a : List UInt8, Lib.compareBytes a a = 0
  | [] => rfl
  | x :: a => by
    unfold Lib.compareBytes
    rw [if_neg (UInt8.lt_irrefl x), if_neg (UInt8.lt_irrefl x)]
    exact cb_self a
theorem cb_trans : ∀ a b c : List UInt8, Lib.compareBytes a b < 0 → Lib.compareBytes b c < 0 → Lib.compareBytes a c < 0
  | [], [], _, h, _ => by simp [Lib.compareBytes] at h
  | [], _ :: _, [], _, h => by simp [Lib.compareBytes] at h
  | [], _ :: _, _ :: _, _, _ => by simp [Lib.compareBytes]
  | _ :: _, [], _, h, _ => by simp [Lib.compareBytes] at h
  | _ :: _, _ :: _, [], _, h => by simp [Lib.compareBytes] at h
  | x :: a, y :: b, z :: c, h1, h2 => by
    unfold Lib.compareBytes at h1 h2 ⊢
    simp only [UInt8.lt_iff_toNat_lt] at h1 h2 ⊢
    split at h1
    · split at h2
      · rw [if_pos (by omega)]; omega
      · split at h2
        · omega
        · rw [if_pos (by omega)]; omega
    · split at h1
      · omega
      · split at h2
        · rw [if_pos (by omega)]; omega
        · split at h2
          · omega
          · rw [if_neg (by omega), if_neg (by omega)]
            exact cb_trans a b c h1 h2
theorem cb_total : ∀ a b c : List UInt8, ¬ Lib.compareBytes a b < 0 → ¬ Lib.compareBytes b c < 0 → ¬ Lib.compareBytes a c < 0
  | [], [], _, _, h => h
  | [], _ :: _, _, h, _ => by simp [Lib.compareBytes] at h
  | _ :: _, _, [], _, _ => by simp [Lib.compareBytes]
  | _ :: _, [], _ :: _, _, h => by simp [Lib.compareBytes] at h
  | x :: a, y :: b, z :: c, h1, h2 => by
    unfold Lib.compareBytes at h1 h2 ⊢
    simp only [UInt8.lt_iff_toNat_lt] at h1 h2 ⊢
    split at h1
    · omega
    · split at h2
      · omega
      · rw [if_neg (by omega)]
        split at h1
        · rw [if_pos (by omega)]; omega
        · split at h2
          · rw [if_pos (by omega)]; omega
          · rw [if_neg (by omega)]
            exact cb_total a b c h1 h2
/-- What the crier's comparison answers. -/
def befN (last : ByteArray → Int) (x y : ByteArray) : Int := if last x - last y = 0 then Lib.compareBytes x.data.toList y.data.toList else last x - last y
theorem befN_swo (last : ByteArray → Int) : SWO (Go.Proofs.ltOf (befN last)) := by
  refine ⟨fun x => ?_, fun x y z h1 h2 => ?_, fun x y z h1 h2 => ?_⟩
  · unfold Go.Proofs.ltOf befN
    rw [if_pos (by omega), cb_self]
    rfl
  · unfold Go.Proofs.ltOf befN at *
    rw [decide_eq_true_eq] at *
    by_cases e1 : last x - last y = 0
    · rw [if_pos e1] at h1
      by_cases e2 : last y - last z = 0
      · rw [if_pos e2] at h2
        rw [if_pos (by omega)]
        exact cb_trans _ _ _ h1 h2
      · rw [if_neg e2] at h2
        rw [if_neg (by omega)]
        omega
    · rw [if_neg e1] at h1
      by_cases e2 : last y - last z = 0
      · rw [if_neg (by omega)]; omega
      · rw [if_neg e2] at h2
        rw [if_neg (by omega)]; omega
  · unfold Go.Proofs.ltOf befN at *
    rw [decide_eq_false_iff_not] at *
    by_cases e1 : last x - last y = 0
    · rw [if_pos e1] at h1
      by_cases e2 : last y - last z = 0
      · rw [if_pos e2] at h2
        rw [if_pos (by omega)]
        exact cb_total _ _ _ h1 h2
      · rw [if_neg e2] at h2
        rw [if_neg (by omega)]
        omega
    · rw [if_neg e1] at h1
      by_cases e2 : last y - last z = 0
      · rw [if_neg (by omega)]; omega
      · rw [if_neg e2] at h2
        rw [if_neg (by omega)]; omega
/-- x comes no later than y. -/
def NamesP (last : ByteArray → Int) (x y : ByteArray) : Prop := Go.Proofs.ltOf (befN last) y x = false
/-- Who does not come behind waits no less long. -/
theorem befN_last {last : ByteArray → Int} {x y : ByteArray} (h : Go.Proofs.ltOf (befN last) y x = false) : last x ≤ last y := by
  unfold Go.Proofs.ltOf befN at h
  rw [decide_eq_false_iff_not] at h
  by_cases e : last y - last x = 0
  · omega
  · rw [if_neg e] at h
    omega
end Go.Proofs.YtnflhjagmngimaaGreatDoor

namespace Go.Proofs.YtnflhjagmngimaaGreatDoor
set_option linter.unusedSimpArgs false
set_option linter.unusedVariables false
open Go.RowKit Go.Shelf

theorem var_newL {w w' : World} {name : String} {cs : Array Value} (h : w.var? Tryz.prog name = some cs) (hn : New w w') : w'.var? Tryz.prog name = some cs := by
  unfold World.var? at *
  cases hg : Tryz.prog.globalNamed name with
  | none => rw [hg] at h; simp at h
  | some g =>
    rw [hg] at h
    simp only [Option.bind_some] at h ⊢
    have hlt : g < w.heap.size := by
      rcases Nat.lt_or_ge g w.heap.size with h' | h'
      · exact h'
      · simp [Array.getElem?_eq_none h'] at h
    rw [hn.block g hlt (fun x => x)]
    exact h
/-- The library's variables. -/
structure VarsL (w : World) : Prop where
  tab : Tab w
  syn : ∃ tp p, w.var? Tryz.prog "strconv.ErrSyntax" = some #[.iface tp p]
  rng : ∃ tp p, w.var? Tryz.prog "strconv.ErrRange" = some #[.iface tp p]
  max : ∃ m, w.cell? ⟨0, 0, none⟩ = some (.int .i64 m)
  low : 0 < w.heap.size
theorem VarsL.new {w w' : World} (h : VarsL w) (hn : New w w') : VarsL w' := by
  obtain ⟨h1, ⟨tp, p, h2⟩, ⟨tq, q, h3⟩, ⟨m, h4⟩, h5⟩ := h
  exact ⟨h1.new hn, ⟨tp, p, var_newL h2 hn⟩, ⟨tq, q, var_newL h3 hn⟩, ⟨m, hn.cellv h4⟩, Nat.lt_of_lt_of_le h5 hn.size⟩
theorem atoi_inL {l : List UInt8} : -9223372036854775808 ≤ atoiV l ∧ atoiV l ≤ 9223372036854775807 := by
  unfold atoiV
  split
  · next v h =>
    cases l with
    | nil => simp [Lib.atoiAll] at h
    | cons c r =>
      simp only [Lib.atoiAll] at h
      split at h
      · cases h
      · cases h
      · next u hu =>
        split at h
        · cases h
        · split at h
          · cases h
          · injection h with h
            rw [← h]
            split <;> omega
  · unfold Lib.atoiSat
    split <;> omega
  · omega
theorem newL_bytes (w : World) (e : TypeId) (s : ByteArray) : New w (Lib.bytesWorld w e s) := New.of_below (Go.Joins.below_bytesWorld w.heap.size w e s (Nat.le_refl _))
/-- Atoi, of whatever text: its number, and whether it has an error. -/
def AtoiR (w w' : World) (t : ByteArray) (e : Ending) : Prop := ∃ x, e = .returned (.tuple #[.int .i64 (atoiV t.data.toList), x]) ∧ ((Lib.atoiAll t.data.toList = .ok (atoiV t.data.toList) ∧ x = .nilIface) ∨ ((∀ v, Lib.atoiAll t.data.toList ≠ .ok v) ∧ ∃ N, x = .iface 151 (.pointer (some N)))) ∧ New w w'
theorem atoi_ok {l : List UInt8} {v : Int} (h : Lib.atoiAll l = .ok v) : atoiV l = v := by unfold atoiV; rw [h]
theorem atoi_syn {l : List UInt8} (h : Lib.atoiAll l = Lib.atoiAll []) : atoiV l = 0 := by unfold atoiV; rw [h]; rfl
theorem atoi_rng {l : List UInt8} (h : Lib.atoiAll l = .range) : atoiV l = Lib.atoiSat l := by unfold atoiV; rw [h]
theorem atoi_full (t : ByteArray) (w : World) (hv : VarsL w) (hs : t.size ≤ 4000000000) :
    Calls Tryz.prog 45 #[.string t] w fun e w' => AtoiR w w' t e := by
  cases ha : Lib.atoiAll t.data.toList with
  | ok v =>
    refine (Tryz.strconv_Atoi_ok t (by omega) v ha w).mono ?_
    rintro e w' ⟨rfl, hw⟩
    refine ⟨_, by rw [atoi_ok ha], .inl ⟨by rw [atoi_ok ha]; exact ha, rfl⟩, ?_⟩
    rcases hw with rfl | ⟨s, rfl⟩
    · exact Mod.refl _ _
    · exact newL_bytes _ _ _
  | range =>
    obtain ⟨tp, p, hsy⟩ := hv.rng
    refine (Tryz.strconv_Atoi_range_var t (by omega) ha tp p w hsy).mono ?_
    rintro e w' ⟨N, rfl, -, -, hb⟩
    exact ⟨_, by rw [atoi_rng ha], .inr ⟨fun v => by (rw [ha]; simp), _, rfl⟩, New.of_below hb⟩
  | _ =>
    obtain ⟨tp, p, hsy⟩ := hv.syn
    refine (Tryz.strconv_Atoi_syntax_var t (by omega) ha tp p w hsy).mono ?_
    rintro e w' ⟨N, rfl, -, -, hb⟩
    exact ⟨_, by rw [atoi_syn ha], .inr ⟨fun v => by (rw [ha]; simp), _, rfl⟩, New.of_below hb⟩
/-! ### a list of texts of the call's own -/
theorem info_str : (Tryz.prog.info? 9).map (fun i => (i.zero, i.size, i.bytes)) = some (some (.string ⟨#[]⟩), 1, 16) := by kernel_rfl
/-- The slice v, of the call's own memory from block base on, holds the texts l. -/
structure OwnT (w : World) (base : Nat) (v : Value) (l : List ByteArray) : Prop where
  row : w.ownsRow base 9 1 v l.length (l.map Value.string)
  small : ∀ s ∈ l, s.size ≤ maxLen
theorem OwnT.nil (w : World) (base : Nat) : OwnT w base (.slice none 0 0) [] := ⟨World.ownsRow_nil _ _ _ _, by simp⟩
theorem OwnT.block {w : World} {base g : Nat} {v : Value} {l : List ByteArray} (h : OwnT w base v l) (hv : v.ownBlock = some g) : base ≤ g ∧ g < w.heap.size := by
  rcases h.row.2 with ⟨rfl, hn⟩ | ⟨g', cap, cur, rfl, hbg, hg, -⟩
  · cases hv
  · injection hv with hv
    subst hv
    exact ⟨hbg, (Array.getElem?_eq_some_iff.1 hg).1⟩
theorem OwnT.mod {S : Nat → Prop} {w w' : World} {base : Nat} {v : Value} {l : List ByteArray} (h : OwnT w base v l) (n : Mod S w w') (hs : ∀ k, base ≤ k → k < w.heap.size → ¬ S k) : OwnT w' base v l := by
  refine ⟨?_, h.small⟩
  rcases h.row.2 with ⟨rfl, hn⟩ | ⟨g, cap, cur, rfl, hbg, hg, r⟩
  · exact ⟨h.row.1, .inl ⟨rfl, hn⟩⟩
  · have hlt := (Array.getElem?_eq_some_iff.1 hg).1
    exact ⟨h.row.1, .inr ⟨g, cap, cur, rfl, hbg, (n.block g hlt (hs g hbg hlt)).trans hg, r⟩⟩
theorem OwnT.new {w w' : World} {base : Nat} {v : Value} {l : List ByteArray} (h : OwnT w base v l) (n : New w w') : OwnT w' base v l := h.mod n (fun _ _ _ x => x)
theorem OwnT.strs {w : World} {base : Nat} {v : Value} {l : List ByteArray} (h : OwnT w base v l) : ∃ a c, v = .slice a l.length c ∧ StrsAt w a c l ∧ ∀ x, a = some x → base ≤ x.block ∧ x.block < w.heap.size := by
  rcases h.row.2 with ⟨rfl, hn⟩ | ⟨g, cap, cur, rfl, hbg, hg, hnc, hcm, hcs, htake⟩
  · have : l = [] := List.eq_nil_of_length_eq_zero hn
    subst this
    exact ⟨none, 0, rfl, ⟨by simp, by simp [maxLen], by simp, .inl rfl⟩, by simp⟩
  · have hlt := (Array.getElem?_eq_some_iff.1 hg).1
    refine ⟨some ⟨g, 0, none⟩, cap, rfl, ⟨hnc, hcm, h.small, .inr ⟨g, 0, rfl, hlt, fun i s hi => ?_⟩⟩, fun x hx => ?_⟩
    · have h1 := h.row.cells (g := g) rfl i (.string s) (by simp [hi])
      have hadd : ∀ k, (⟨g, 0, none⟩ : Addr).add k = ⟨g, 0 + k, none⟩ := fun k => by unfold Addr.add; split <;> simp_all
      rw [hadd] at h1
      exact h1
    · simp at hx
      subst hx
      exact ⟨hbg, hlt⟩
theorem ownT_of {w : World} {base : Nat} {v : Value} {l : List ByteArray} {s : ByteArray} (hl : ∀ s ∈ l, s.size ≤ maxLen) (hs : s.size ≤ maxLen) (h : w.ownsRow base 9 1 v (l.length + 1) (l.map Value.string ++ [.string s])) : OwnT w base v (l ++ [s]) := by
  refine ⟨by rw [List.length_append, List.map_append]; exact h, fun x hx => ?_⟩
  rcases List.mem_append.1 hx with q | q
  · exact hl x q
  · simp only [List.mem_singleton] at q
    rw [q]
    exact hs
theorem mod_grownT {w w0 w' : World} {base B : Nat} {v : Value} {l : List ByteArray} (h : OwnT w base v l) (hb : B ≤ base) (n : Mod (fun k => B ≤ k) w0 w) (g : w.grownBy w' v.ownBlock) : Mod (fun k => B ≤ k) w0 w' :=
  ⟨g.os.trans n.os, g.tape.trans n.tape, g.output.trans n.output, Nat.le_trans n.size g.size, fun k hk hx => (g.block k (Nat.lt_of_lt_of_le hk n.size) (fun q => hx (by have := (h.block q.symm).1; omega))).trans (n.block k hk hx)⟩
end Go.Proofs.YtnflhjagmngimaaGreatDoor
