/-
  Several texts in one, in their build order. The walk of the reference's one on a line that is none. Conditions: the text is small.
-/
import Derived.Test.YtnccfikimmolgaaGreatDoorM35
import Derived.Laws.ResultCell
namespace Go.Proofs.YtnccfikimmolgaaGreatDoor
set_option linter.unusedSimpArgs false
set_option linter.unusedVariables false
open Go.RowKit Go.Shelf

/-- What one answers of a line. -/
def OneOut (w w' : World) (L : List UInt8) (e : Ending) : Prop := ∃ pa n pc ln pd ok, e = .returned (.tuple #[.agg #[.slice pa n pc, .int .i64 ln, .bool pd], .bool ok]) ∧ ok = (lineP L).isSome ∧
  (∀ y, lineP L = some y → n = (fileR y).path.length ∧ ln = (fileR y).len ∧ pd = (fileR y).pad ∧ StrsAt w' pa pc (fileR y).path ∧ (∀ x, pa = some x → w.heap.size ≤ x.block ∧ x.block < w'.heap.size)) ∧ New w w'
theorem OneOut.bad {w w' : World} {L : List UInt8} {pd : Bool} (h : lineP L = none) (hn : New w w') : OneOut w w' L (.returned (.tuple #[.agg #[.slice none 0 0, .int .i64 0, .bool pd], .bool false])) :=
  ⟨none, 0, 0, 0, pd, false, rfl, by rw [h]; rfl, fun y hy => (by rw [h] at hy; cases hy), hn⟩
theorem rest_cases (t : ByteArray) : (∃ h : 0 < t.size, (t[0].toNat : Int) = 42 ∧ padOfL t.data.toList = true ∧ restOfL t.data.toList = (t.extract 1 t.size).data.toList) ∨ ((∀ h : 0 < t.size, ¬ (t[0].toNat : Int) = 42) ∧ padOfL t.data.toList = false ∧ restOfL t.data.toList = t.data.toList) := by
  rcases Nat.eq_zero_or_pos t.size with h0 | hpos
  · right
    have e : t.data.toList = [] := List.eq_nil_of_length_eq_zero (by rw [Array.length_toList]; exact h0)
    rw [e]
    exact ⟨fun h => by omega, rfl, rfl⟩
  · have hb := byte_at' t hpos
    cases hq : t.data.toList with
    | nil => rw [hq] at hb; cases hb
    | cons x r =>
      rw [hq] at hb
      have hx : x = t[0] := by simpa using hb
      by_cases h : (t[0].toNat : Int) = 42
      · left
        have h42 : x = 42 := by
          rw [hx]
          apply UInt8.toNat_inj.1
          have : (42 : UInt8).toNat = 42 := rfl
          omega
        refine ⟨hpos, h, by simp [padOfL, h42], ?_⟩
        rw [ext_list, hq]
        have hl : r.length = t.size - 1 := by
          have : (x :: r).length = t.size := by rw [← hq, Array.length_toList]; rfl
          simp at this
          omega
        simp [restOfL, padOfL, h42, ← hl]
      · right
        have h42 : ¬ x = 42 := fun q => h (by rw [← hx, q]; rfl)
        refine ⟨fun _ => h, by simp [padOfL, h42], by simp [restOfL, padOfL, h42]⟩
theorem lead_of (U : ByteArray) (k : Nat) (hk : k ≤ U.size) (hd : ∀ (j : Nat) (hj : j < U.size), j < k → isDig U[j] = true) (hs : ∀ h : k < U.size, isDig U[k] = false) : Lead U.data.toList k := by
  have hl : U.data.toList.length = U.size := by rw [Array.length_toList]; rfl
  have hg : ∀ (j : Nat) (hj : j < U.data.toList.length), U.data.toList[j] = U[j]'(by omega) := fun j hj => by
    have := byte_at' U (k := j) (by omega)
    rw [List.getElem?_eq_getElem hj] at this
    exact Option.some.inj this
  exact ⟨by omega, fun j hj h => by rw [hg j hj]; exact hd j (by omega) h, fun h => by rw [hg k h]; exact hs (by omega)⟩
theorem lead_ex (R : List UInt8) : ∃ n, Lead R n := by
  induction R with
  | nil => exact ⟨0, by simp, fun j hj => by simp at hj, fun h => by simp at h⟩
  | cons x r ih =>
    cases hx : isDig x with
    | false => exact ⟨0, by simp, fun j hj h => by omega, fun h => by simpa using hx⟩
    | true =>
      obtain ⟨n, h1, h2, h3⟩ := ih
      refine ⟨n + 1, by simpa using h1, fun j hj h => ?_, fun h => ?_⟩
      · cases j with
        | zero => simpa using hx
        | succ j => simpa using h2 j (by simpa using hj) (by omega)
      · simpa using h3 (by simpa using h)
theorem cond_false {L R : List UInt8} (h : lineP L = none) (hr : restOfL L = R) : condP R = false := by
  rw [lineP_cond, hr] at h
  cases hc : condP R with
  | false => rfl
  | true => rw [hc] at h; cases h
set_option maxRecDepth 100000 in
set_option maxHeartbeats 4000000 in
theorem one_bad (t : ByteArray) (w : World) (hs : t.size ≤ 70000) (hno : lineP t.data.toList = none) :
    Calls Tryz.prog 48 #[.string t] w fun e w' => OneOut w w' t.data.toList e := by
  have HC := hid hno
  clear hno
  rcases rest_cases t with ⟨hpos, h42, hpd, hrest⟩ | ⟨h42, hpd, hrest⟩
  · have hem : t.toList.isEmpty = false := (canon_cases t hpos).1
    obtain ⟨U, hU⟩ : ∃ U, U = t.extract 1 t.size := ⟨_, rfl⟩
    rw [← hU] at hrest
    have hus : U.size ≤ 70000 := by rw [hU, ByteArray.size_extract]; omega
    have HU := hid hU; have HCF := hid (cond_false HC.out hrest)
    clear hU hrest hpd
    go_enter Tryz.func48, Tryz.ntmps48
    go_wp2
    rw [← HU.out]
    go_loopw [5] (fun x wr => ∃ (k : Nat), x = .int .i64 k ∧ k ≤ U.size ∧ (∀ (j : Nat) (hj : j < U.size), j < k → isDig U[j] = true) ∧ Blk wr w.heap.size #[.slice none 0 0, .int .i64 0, .bool false] 51 ∧ Blk wr (w.heap.size + 1) #[.slice none 0 0, .int .i64 0, .bool true] 51 ∧ New w wr) (fun x _ => U.size - (intOf x).toNat)
    case atStart => exact ⟨0, rfl, by omega, by omega, (Blk.new w _ _).alloc _, Blk.newAt (by simp), ((Mod.refl _ _).alloc _).alloc _⟩
    case round =>
      obtain ⟨k, rfl, hk, hd, hb0, hb1, hn⟩ := hrel
      have HN := hid hn
      have HD := hid hd
      have HB0 := hid hb0
      have HB1 := hid hb1
      clear hn hd hb0 hb1
      by_cases hlt : k < U.size
      · have hltI : (k : Int) < (U.size : Int) := by omega
        cases hdk : isDig U[k] with
        | true =>
          have HDK := hid hdk
          simp only [isDig, Bool.and_eq_true, decide_eq_true_eq] at hdk
          have hlo : (48 : Int) ≤ (U[k].toNat : Int) := by omega
          have hhi : (U[k].toNat : Int) ≤ 57 := by omega
          clear hdk
          go_wp2
          exact ⟨⟨k + 1, by simp, by omega, fun j hj h => by rcases Nat.lt_succ_iff_lt_or_eq.1 h with h | h; exact HD.out j hj h; subst h; exact HDK.out, HB0.out, HB1.out, HN.out⟩, by simp [intOf]; omega⟩
        | false =>
          have hld := lead_of U k hk HD.out (fun _ => hdk)
          have hlk : k < U.data.toList.length := by rw [Array.length_toList]; exact hlt
          have hgk : U.data.toList[k] = U[k] := by have := byte_at' U hlt; rw [List.getElem?_eq_getElem hlk] at this; exact Option.some.inj this
          by_cases hk0 : k = 0
          · subst hk0
            have hk0I : ((0 : Nat) : Int) = 0 := rfl
            simp only [isDig, Bool.and_eq_false_iff, decide_eq_false_iff_not] at hdk
            clear hld hgk hlk
            by_cases hlo : (U[0].toNat : Int) < 48
            · clear hdk
              have d0 := HB1.out.cellv 0 rfl; have d1 := HB1.out.cellv 1 rfl; have d2 := HB1.out.cellv 2 rfl; have d3 := HB1.out.lt; have d4 := HB1.out.frz
              have e0 := HB0.out.cellv 0 rfl; have e1 := HB0.out.cellv 1 rfl; have e2 := HB0.out.cellv 2 rfl; have e3 := HB0.out.lt; have e4 := HB0.out.frz
              go_wp2
              (try simp only [Exit.inBlock, Exit.then])
              refine bodyPost_ret (v := .tuple #[.agg #[.slice none 0 0, .int .i64 0, .bool true], .bool false]) ?_ rfl ?_
              · rw [results_cell_tmp rfl]
                have hB := (((HB0.out.set 0 (.slice none 0 0)).set 1 (.int .i64 0)).set 2 (.bool true)).row (cs' := #[.slice none 0 0, .int .i64 0, .bool true]) rfl
                have hld := run_loadVar_row (P := Tryz.prog) _ w.heap.size _ 51 _ (0, 0) _ hB Tryz.underlying51 rfl (by kernel_rfl)
                simp [asAddr, Result.andThen, hld]
              · exact OneOut.bad HC.out (((HN.out.set _ _ (.inr (Nat.le_refl _))).set _ _ (.inr (Nat.le_refl _))).set _ _ (.inr (Nat.le_refl _)))
            · have hhi : (57 : Int) < (U[0].toNat : Int) := by omega
              clear hdk
              have d0 := HB1.out.cellv 0 rfl; have d1 := HB1.out.cellv 1 rfl; have d2 := HB1.out.cellv 2 rfl; have d3 := HB1.out.lt; have d4 := HB1.out.frz
              have e0 := HB0.out.cellv 0 rfl; have e1 := HB0.out.cellv 1 rfl; have e2 := HB0.out.cellv 2 rfl; have e3 := HB0.out.lt; have e4 := HB0.out.frz
              go_wp2
              (try simp only [Exit.inBlock, Exit.then])
              refine bodyPost_ret (v := .tuple #[.agg #[.slice none 0 0, .int .i64 0, .bool true], .bool false]) ?_ rfl ?_
              · rw [results_cell_tmp rfl]
                have hB := (((HB0.out.set 0 (.slice none 0 0)).set 1 (.int .i64 0)).set 2 (.bool true)).row (cs' := #[.slice none 0 0, .int .i64 0, .bool true]) rfl
                have hld := run_loadVar_row (P := Tryz.prog) _ w.heap.size _ 51 _ (0, 0) _ hB Tryz.underlying51 rfl (by kernel_rfl)
                simp [asAddr, Result.andThen, hld]
              · exact OneOut.bad HC.out (((HN.out.set _ _ (.inr (Nat.le_refl _))).set _ _ (.inr (Nat.le_refl _))).set _ _ (.inr (Nat.le_refl _)))
          · have hk0I : ¬ (k : Int) = 0 := by omega
            have hkuI : ¬ (k : Int) = (U.size : Int) := by omega
            by_cases h32 : U[k] = 32
            · have h32I : (U[k].toNat : Int) = 32 := by rw [h32]; rfl
              have hlo : (U[k].toNat : Int) < 48 := by omega
              have hcd := cond_at hld hlk (by rw [hgk]; exact h32)
              have hct := canon_take (by omega) hlk
              have h0l : 0 < U.size := by omega
              have hg0 : U.data.toList[0]'(by omega) = U[0] := by have := byte_at' U h0l; rw [List.getElem?_eq_getElem (by omega)] at this; exact Option.some.inj this
              rw [hg0] at hct
              rw [HCF.out, hct] at hcd
              have hq : U[0] = 48 ∧ ¬ k = 1 := by simpa using hcd
              obtain ⟨h48, hk1⟩ := hq
              have h48I : (U[0].toNat : Int) = 48 := by rw [h48]; rfl
              have hk1I : (1 : Int) < (k : Int) := by omega
              clear hld hcd hct hg0 hdk h32 h48 hgk
              have d0 := HB1.out.cellv 0 rfl; have d1 := HB1.out.cellv 1 rfl; have d2 := HB1.out.cellv 2 rfl; have d3 := HB1.out.lt; have d4 := HB1.out.frz
              have e0 := HB0.out.cellv 0 rfl; have e1 := HB0.out.cellv 1 rfl; have e2 := HB0.out.cellv 2 rfl; have e3 := HB0.out.lt; have e4 := HB0.out.frz
              go_wp2
              (try simp only [Exit.inBlock, Exit.then])
              refine bodyPost_ret (v := .tuple #[.agg #[.slice none 0 0, .int .i64 0, .bool true], .bool false]) ?_ rfl ?_
              · rw [results_cell_tmp rfl]
                have hB := (((HB0.out.set 0 (.slice none 0 0)).set 1 (.int .i64 0)).set 2 (.bool true)).row (cs' := #[.slice none 0 0, .int .i64 0, .bool true]) rfl
                have hld := run_loadVar_row (P := Tryz.prog) _ w.heap.size _ 51 _ (0, 0) _ hB Tryz.underlying51 rfl (by kernel_rfl)
                simp [asAddr, Result.andThen, hld]
              · exact OneOut.bad HC.out (((HN.out.set _ _ (.inr (Nat.le_refl _))).set _ _ (.inr (Nat.le_refl _))).set _ _ (.inr (Nat.le_refl _)))
            · have h32I : ¬ (U[k].toNat : Int) = 32 := fun q => h32 (UInt8.toNat_inj.1 (by have : (32 : UInt8).toNat = 32 := rfl; omega))
              simp only [isDig, Bool.and_eq_false_iff, decide_eq_false_iff_not] at hdk
              clear hld h32 hgk
              by_cases hlo : (U[k].toNat : Int) < 48
              · clear hdk
                have d0 := HB1.out.cellv 0 rfl; have d1 := HB1.out.cellv 1 rfl; have d2 := HB1.out.cellv 2 rfl; have d3 := HB1.out.lt; have d4 := HB1.out.frz
                have e0 := HB0.out.cellv 0 rfl; have e1 := HB0.out.cellv 1 rfl; have e2 := HB0.out.cellv 2 rfl; have e3 := HB0.out.lt; have e4 := HB0.out.frz
                go_wp2
                (try simp only [Exit.inBlock, Exit.then])
                refine bodyPost_ret (v := .tuple #[.agg #[.slice none 0 0, .int .i64 0, .bool true], .bool false]) ?_ rfl ?_
                · rw [results_cell_tmp rfl]
                  have hB := (((HB0.out.set 0 (.slice none 0 0)).set 1 (.int .i64 0)).set 2 (.bool true)).row (cs' := #[.slice none 0 0, .int .i64 0, .bool true]) rfl
                  have hld := run_loadVar_row (P := Tryz.prog) _ w.heap.size _ 51 _ (0, 0) _ hB Tryz.underlying51 rfl (by kernel_rfl)
                  simp [asAddr, Result.andThen, hld]
                · exact OneOut.bad HC.out (((HN.out.set _ _ (.inr (Nat.le_refl _))).set _ _ (.inr (Nat.le_refl _))).set _ _ (.inr (Nat.le_refl _)))
              · have hhi : (57 : Int) < (U[k].toNat : Int) := by omega
                clear hdk
                have d0 := HB1.out.cellv 0 rfl; have d1 := HB1.out.cellv 1 rfl; have d2 := HB1.out.cellv 2 rfl; have d3 := HB1.out.lt; have d4 := HB1.out.frz
                have e0 := HB0.out.cellv 0 rfl; have e1 := HB0.out.cellv 1 rfl; have e2 := HB0.out.cellv 2 rfl; have e3 := HB0.out.lt; have e4 := HB0.out.frz
                go_wp2
                (try simp only [Exit.inBlock, Exit.then])
                refine bodyPost_ret (v := .tuple #[.agg #[.slice none 0 0, .int .i64 0, .bool true], .bool false]) ?_ rfl ?_
                · rw [results_cell_tmp rfl]
                  have hB := (((HB0.out.set 0 (.slice none 0 0)).set 1 (.int .i64 0)).set 2 (.bool true)).row (cs' := #[.slice none 0 0, .int .i64 0, .bool true]) rfl
                  have hld := run_loadVar_row (P := Tryz.prog) _ w.heap.size _ 51 _ (0, 0) _ hB Tryz.underlying51 rfl (by kernel_rfl)
                  simp [asAddr, Result.andThen, hld]
                · exact OneOut.bad HC.out (((HN.out.set _ _ (.inr (Nat.le_refl _))).set _ _ (.inr (Nat.le_refl _))).set _ _ (.inr (Nat.le_refl _)))
      · obtain rfl : k = U.size := by omega
        by_cases hk0 : U.size = 0
        · have hk0I : (U.size : Int) = 0 := by omega
          have d0 := HB1.out.cellv 0 rfl; have d1 := HB1.out.cellv 1 rfl; have d2 := HB1.out.cellv 2 rfl; have d3 := HB1.out.lt; have d4 := HB1.out.frz
          have e0 := HB0.out.cellv 0 rfl; have e1 := HB0.out.cellv 1 rfl; have e2 := HB0.out.cellv 2 rfl; have e3 := HB0.out.lt; have e4 := HB0.out.frz
          go_wp2
          (try simp only [Exit.inBlock, Exit.then])
          refine bodyPost_ret (v := .tuple #[.agg #[.slice none 0 0, .int .i64 0, .bool true], .bool false]) ?_ rfl ?_
          · rw [results_cell_tmp rfl]
            have hB := (((HB0.out.set 0 (.slice none 0 0)).set 1 (.int .i64 0)).set 2 (.bool true)).row (cs' := #[.slice none 0 0, .int .i64 0, .bool true]) rfl
            have hld := run_loadVar_row (P := Tryz.prog) _ w.heap.size _ 51 _ (0, 0) _ hB Tryz.underlying51 rfl (by kernel_rfl)
            simp [asAddr, Result.andThen, hld]
          · exact OneOut.bad HC.out (((HN.out.set _ _ (.inr (Nat.le_refl _))).set _ _ (.inr (Nat.le_refl _))).set _ _ (.inr (Nat.le_refl _)))
        · have hk0I : ¬ (U.size : Int) = 0 := by omega
          have d0 := HB1.out.cellv 0 rfl; have d1 := HB1.out.cellv 1 rfl; have d2 := HB1.out.cellv 2 rfl; have d3 := HB1.out.lt; have d4 := HB1.out.frz
          have e0 := HB0.out.cellv 0 rfl; have e1 := HB0.out.cellv 1 rfl; have e2 := HB0.out.cellv 2 rfl; have e3 := HB0.out.lt; have e4 := HB0.out.frz
          go_wp2
          (try simp only [Exit.inBlock, Exit.then])
          refine bodyPost_ret (v := .tuple #[.agg #[.slice none 0 0, .int .i64 0, .bool true], .bool false]) ?_ rfl ?_
          · rw [results_cell_tmp rfl]
            have hB := (((HB0.out.set 0 (.slice none 0 0)).set 1 (.int .i64 0)).set 2 (.bool true)).row (cs' := #[.slice none 0 0, .int .i64 0, .bool true]) rfl
            have hld := run_loadVar_row (P := Tryz.prog) _ w.heap.size _ 51 _ (0, 0) _ hB Tryz.underlying51 rfl (by kernel_rfl)
            simp [asAddr, Result.andThen, hld]
          · exact OneOut.bad HC.out (((HN.out.set _ _ (.inr (Nat.le_refl _))).set _ _ (.inr (Nat.le_refl _))).set _ _ (.inr (Nat.le_refl _)))
  · have HCF := hid (cond_false HC.out hrest)
    clear hrest hpd
    rcases Nat.eq_zero_or_pos t.size with h0 | hpos
    · have hem : t.toList.isEmpty = true := by
        rw [ByteArray.toList_eq, List.eq_nil_of_length_eq_zero (show t.data.toList.length = 0 by rw [Array.length_toList]; exact h0)]
        rfl
      have h0I : (t.size : Int) = 0 := by omega
      have HB0 := hid ((Blk.new w #[.slice none 0 0, .int .i64 0, .bool false] 51).alloc (.cells #[.slice none 0 0, .int .i64 0, .bool false] 51))
      have HB1 := hid (Blk.newAt (w := w.alloc (.cells #[.slice none 0 0, .int .i64 0, .bool false] 51)) (b := w.heap.size + 1) (cs := #[.slice none 0 0, .int .i64 0, .bool false]) (t := 51) (by simp))
      have HN := hid (((Mod.refl _ w).alloc (.cells #[.slice none 0 0, .int .i64 0, .bool false] 51)).alloc (.cells #[.slice none 0 0, .int .i64 0, .bool false] 51) : New w _)
      go_enter Tryz.func48, Tryz.ntmps48
      go_wp2
      refine wp_loop_rounds 1 ?_
      rw [rounds_succ]
      go_wp2
      (try simp only [Exit.inBlock, Exit.then])
      refine bodyPost_ret (v := .tuple #[.agg #[.slice none 0 0, .int .i64 0, .bool false], .bool false]) ?_ rfl ?_
      · rw [results_cell_tmp rfl]
        have hld := run_loadVar_row (P := Tryz.prog) _ w.heap.size _ 51 _ (0, 0) _ HB0.out Tryz.underlying51 rfl (by kernel_rfl)
        simp [asAddr, Result.andThen, hld]
      · exact OneOut.bad HC.out HN.out
    · have hem : t.toList.isEmpty = false := (canon_cases t hpos).1
      have h42 := h42 hpos
      go_enter Tryz.func48, Tryz.ntmps48
      go_wp2
      go_loopw [5] (fun x wr => ∃ (k : Nat), x = .int .i64 k ∧ k ≤ t.size ∧ (∀ (j : Nat) (hj : j < t.size), j < k → isDig t[j] = true) ∧ Blk wr w.heap.size #[.slice none 0 0, .int .i64 0, .bool false] 51 ∧ Blk wr (w.heap.size + 1) #[.slice none 0 0, .int .i64 0, .bool false] 51 ∧ New w wr) (fun x _ => t.size - (intOf x).toNat)
      case atStart => exact ⟨0, rfl, by omega, by omega, (Blk.new w _ _).alloc _, Blk.newAt (by simp), ((Mod.refl _ _).alloc _).alloc _⟩
      case round =>
        obtain ⟨k, rfl, hk, hd, hb0, hb1, hn⟩ := hrel
        have HN := hid hn
        have HD := hid hd
        have HB0 := hid hb0
        have HB1 := hid hb1
        clear hn hd hb0 hb1
        by_cases hlt : k < t.size
        · have hltI : (k : Int) < (t.size : Int) := by omega
          cases hdk : isDig t[k] with
          | true =>
            have HDK := hid hdk
            simp only [isDig, Bool.and_eq_true, decide_eq_true_eq] at hdk
            have hlo : (48 : Int) ≤ (t[k].toNat : Int) := by omega
            have hhi : (t[k].toNat : Int) ≤ 57 := by omega
            clear hdk
            go_wp2
            exact ⟨⟨k + 1, by simp, by omega, fun j hj h => by rcases Nat.lt_succ_iff_lt_or_eq.1 h with h | h; exact HD.out j hj h; subst h; exact HDK.out, HB0.out, HB1.out, HN.out⟩, by simp [intOf]; omega⟩
          | false =>
            have hld := lead_of t k hk HD.out (fun _ => hdk)
            have hlk : k < t.data.toList.length := by rw [Array.length_toList]; exact hlt
            have hgk : t.data.toList[k] = t[k] := by have := byte_at' t hlt; rw [List.getElem?_eq_getElem hlk] at this; exact Option.some.inj this
            by_cases hk0 : k = 0
            · subst hk0
              have hk0I : ((0 : Nat) : Int) = 0 := rfl
              simp only [isDig, Bool.and_eq_false_iff, decide_eq_false_iff_not] at hdk
              clear hld hgk hlk
              by_cases hlo : (t[0].toNat : Int) < 48
              · clear hdk
                have d0 := HB1.out.cellv 0 rfl; have d1 := HB1.out.cellv 1 rfl; have d2 := HB1.out.cellv 2 rfl; have d3 := HB1.out.lt; have d4 := HB1.out.frz
                have e0 := HB0.out.cellv 0 rfl; have e1 := HB0.out.cellv 1 rfl; have e2 := HB0.out.cellv 2 rfl; have e3 := HB0.out.lt; have e4 := HB0.out.frz
                go_wp2
                (try simp only [Exit.inBlock, Exit.then])
                refine bodyPost_ret (v := .tuple #[.agg #[.slice none 0 0, .int .i64 0, .bool false], .bool false]) ?_ rfl ?_
                · rw [results_cell_tmp rfl]
                  have hB := (((HB0.out.set 0 (.slice none 0 0)).set 1 (.int .i64 0)).set 2 (.bool false)).row (cs' := #[.slice none 0 0, .int .i64 0, .bool false]) rfl
                  have hld := run_loadVar_row (P := Tryz.prog) _ w.heap.size _ 51 _ (0, 0) _ hB Tryz.underlying51 rfl (by kernel_rfl)
                  simp [asAddr, Result.andThen, hld]
                · exact OneOut.bad HC.out (((HN.out.set _ _ (.inr (Nat.le_refl _))).set _ _ (.inr (Nat.le_refl _))).set _ _ (.inr (Nat.le_refl _)))
              · have hhi : (57 : Int) < (t[0].toNat : Int) := by omega
                clear hdk
                have d0 := HB1.out.cellv 0 rfl; have d1 := HB1.out.cellv 1 rfl; have d2 := HB1.out.cellv 2 rfl; have d3 := HB1.out.lt; have d4 := HB1.out.frz
                have e0 := HB0.out.cellv 0 rfl; have e1 := HB0.out.cellv 1 rfl; have e2 := HB0.out.cellv 2 rfl; have e3 := HB0.out.lt; have e4 := HB0.out.frz
                go_wp2
                (try simp only [Exit.inBlock, Exit.then])
                refine bodyPost_ret (v := .tuple #[.agg #[.slice none 0 0, .int .i64 0, .bool false], .bool false]) ?_ rfl ?_
                · rw [results_cell_tmp rfl]
                  have hB := (((HB0.out.set 0 (.slice none 0 0)).set 1 (.int .i64 0)).set 2 (.bool false)).row (cs' := #[.slice none 0 0, .int .i64 0, .bool false]) rfl
                  have hld := run_loadVar_row (P := Tryz.prog) _ w.heap.size _ 51 _ (0, 0) _ hB Tryz.underlying51 rfl (by kernel_rfl)
                  simp [asAddr, Result.andThen, hld]
                · exact OneOut.bad HC.out (((HN.out.set _ _ (.inr (Nat.le_refl _))).set _ _ (.inr (Nat.le_refl _))).set _ _ (.inr (Nat.le_refl _)))
            · have hk0I : ¬ (k : Int) = 0 := by omega
              have hkuI : ¬ (k : Int) = (t.size : Int) := by omega
              by_cases h32 : t[k] = 32
              · have h32I : (t[k].toNat : Int) = 32 := by rw [h32]; rfl
                have hlo : (t[k].toNat : Int) < 48 := by omega
                have hcd := cond_at hld hlk (by rw [hgk]; exact h32)
                have hct := canon_take (by omega) hlk
                have h0l : 0 < t.size := by omega
                have hg0 : t.data.toList[0]'(by omega) = t[0] := by have := byte_at' t h0l; rw [List.getElem?_eq_getElem (by omega)] at this; exact Option.some.inj this
                rw [hg0] at hct
                rw [HCF.out, hct] at hcd
                have hq : t[0] = 48 ∧ ¬ k = 1 := by simpa using hcd
                obtain ⟨h48, hk1⟩ := hq
                have h48I : (t[0].toNat : Int) = 48 := by rw [h48]; rfl
                have hk1I : (1 : Int) < (k : Int) := by omega
                clear hld hcd hct hg0 hdk h32 h48 hgk
                have d0 := HB1.out.cellv 0 rfl; have d1 := HB1.out.cellv 1 rfl; have d2 := HB1.out.cellv 2 rfl; have d3 := HB1.out.lt; have d4 := HB1.out.frz
                have e0 := HB0.out.cellv 0 rfl; have e1 := HB0.out.cellv 1 rfl; have e2 := HB0.out.cellv 2 rfl; have e3 := HB0.out.lt; have e4 := HB0.out.frz
                go_wp2
                (try simp only [Exit.inBlock, Exit.then])
                refine bodyPost_ret (v := .tuple #[.agg #[.slice none 0 0, .int .i64 0, .bool false], .bool false]) ?_ rfl ?_
                · rw [results_cell_tmp rfl]
                  have hB := (((HB0.out.set 0 (.slice none 0 0)).set 1 (.int .i64 0)).set 2 (.bool false)).row (cs' := #[.slice none 0 0, .int .i64 0, .bool false]) rfl
                  have hld := run_loadVar_row (P := Tryz.prog) _ w.heap.size _ 51 _ (0, 0) _ hB Tryz.underlying51 rfl (by kernel_rfl)
                  simp [asAddr, Result.andThen, hld]
                · exact OneOut.bad HC.out (((HN.out.set _ _ (.inr (Nat.le_refl _))).set _ _ (.inr (Nat.le_refl _))).set _ _ (.inr (Nat.le_refl _)))
              · have h32I : ¬ (t[k].toNat : Int) = 32 := fun q => h32 (UInt8.toNat_inj.1 (by have : (32 : UInt8).toNat = 32 := rfl; omega))
                simp only [isDig, Bool.and_eq_false_iff, decide_eq_false_iff_not] at hdk
                clear hld h32 hgk
                by_cases hlo : (t[k].toNat : Int) < 48
                · clear hdk
                  have d0 := HB1.out.cellv 0 rfl; have d1 := HB1.out.cellv 1 rfl; have d2 := HB1.out.cellv 2 rfl; have d3 := HB1.out.lt; have d4 := HB1.out.frz
                  have e0 := HB0.out.cellv 0 rfl; have e1 := HB0.out.cellv 1 rfl; have e2 := HB0.out.cellv 2 rfl; have e3 := HB0.out.lt; have e4 := HB0.out.frz
                  go_wp2
                  (try simp only [Exit.inBlock, Exit.then])
                  refine bodyPost_ret (v := .tuple #[.agg #[.slice none 0 0, .int .i64 0, .bool false], .bool false]) ?_ rfl ?_
                  · rw [results_cell_tmp rfl]
                    have hB := (((HB0.out.set 0 (.slice none 0 0)).set 1 (.int .i64 0)).set 2 (.bool false)).row (cs' := #[.slice none 0 0, .int .i64 0, .bool false]) rfl
                    have hld := run_loadVar_row (P := Tryz.prog) _ w.heap.size _ 51 _ (0, 0) _ hB Tryz.underlying51 rfl (by kernel_rfl)
                    simp [asAddr, Result.andThen, hld]
                  · exact OneOut.bad HC.out (((HN.out.set _ _ (.inr (Nat.le_refl _))).set _ _ (.inr (Nat.le_refl _))).set _ _ (.inr (Nat.le_refl _)))
                · have hhi : (57 : Int) < (t[k].toNat : Int) := by omega
                  clear hdk
                  have d0 := HB1.out.cellv 0 rfl; have d1 := HB1.out.cellv 1 rfl; have d2 := HB1.out.cellv 2 rfl; have d3 := HB1.out.lt; have d4 := HB1.out.frz
                  have e0 := HB0.out.cellv 0 rfl; have e1 := HB0.out.cellv 1 rfl; have e2 := HB0.out.cellv 2 rfl; have e3 := HB0.out.lt; have e4 := HB0.out.frz
                  go_wp2
                  (try simp only [Exit.inBlock, Exit.then])
                  refine bodyPost_ret (v := .tuple #[.agg #[.slice none 0 0, .int .i64 0, .bool false], .bool false]) ?_ rfl ?_
                  · rw [results_cell_tmp rfl]
                    have hB := (((HB0.out.set 0 (.slice none 0 0)).set 1 (.int .i64 0)).set 2 (.bool false)).row (cs' := #[.slice none 0 0, .int .i64 0, .bool false]) rfl
                    have hld := run_loadVar_row (P := Tryz.prog) _ w.heap.size _ 51 _ (0, 0) _ hB Tryz.underlying51 rfl (by kernel_rfl)
                    simp [asAddr, Result.andThen, hld]
                  · exact OneOut.bad HC.out (((HN.out.set _ _ (.inr (Nat.le_refl _))).set _ _ (.inr (Nat.le_refl _))).set _ _ (.inr (Nat.le_refl _)))
        · obtain rfl : k = t.size := by omega
          by_cases hk0 : t.size = 0
          · have hk0I : (t.size : Int) = 0 := by omega
            exact absurd hk0 (by omega)
          · have hk0I : ¬ (t.size : Int) = 0 := by omega
            have d0 := HB1.out.cellv 0 rfl; have d1 := HB1.out.cellv 1 rfl; have d2 := HB1.out.cellv 2 rfl; have d3 := HB1.out.lt; have d4 := HB1.out.frz
            have e0 := HB0.out.cellv 0 rfl; have e1 := HB0.out.cellv 1 rfl; have e2 := HB0.out.cellv 2 rfl; have e3 := HB0.out.lt; have e4 := HB0.out.frz
            go_wp2
            (try simp only [Exit.inBlock, Exit.then])
            refine bodyPost_ret (v := .tuple #[.agg #[.slice none 0 0, .int .i64 0, .bool false], .bool false]) ?_ rfl ?_
            · rw [results_cell_tmp rfl]
              have hB := (((HB0.out.set 0 (.slice none 0 0)).set 1 (.int .i64 0)).set 2 (.bool false)).row (cs' := #[.slice none 0 0, .int .i64 0, .bool false]) rfl
              have hld := run_loadVar_row (P := Tryz.prog) _ w.heap.size _ 51 _ (0, 0) _ hB Tryz.underlying51 rfl (by kernel_rfl)
              simp [asAddr, Result.andThen, hld]
            · exact OneOut.bad HC.out (((HN.out.set _ _ (.inr (Nat.le_refl _))).set _ _ (.inr (Nat.le_refl _))).set _ _ (.inr (Nat.le_refl _)))
end Go.Proofs.YtnccfikimmolgaaGreatDoor
