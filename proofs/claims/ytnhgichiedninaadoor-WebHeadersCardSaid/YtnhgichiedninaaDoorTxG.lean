/-
  The walks of the reference's Path and Format. Conditions: the lists lie as told; a path's text fits.
-/
import Derived.Test.YtnhgichiedninaaDoorTxF
import Derived.Test.YtnhgichiedninaaDoorRw
namespace Go.Proofs.YtnhgichiedninaaDoor
set_option linter.unusedSimpArgs false
set_option linter.unusedVariables false
open Go.RowKit Go.Shelf

theorem joinTail_snoc (r : List (List UInt8)) (y : List UInt8) : Lib.joinTail [47] (r ++ [y]) = Lib.joinTail [47] r ++ 47 :: y := by simp [Lib.joinTail]
theorem join_next {p : List ByteArray} {k : Nat} (h : k < p.length) : (joinB (p.take (k + 1))).data.toList = (joinB (p.take k)).data.toList ++ (if 0 < k then [47] else []) ++ p[k].data.toList := by
  have e : ∀ q : List ByteArray, (joinB q).data.toList = Lib.join (q.map (·.data.toList)) [47] := fun _ => rfl
  rw [e, e, List.take_succ_eq_append_getElem h, List.map_append]
  cases hq : p.take k with
  | nil =>
    have hk : k = 0 := by
      have : (p.take k).length = 0 := by rw [hq]; rfl
      rw [List.length_take] at this
      omega
    subst hk
    simp [Lib.join]
  | cons x r =>
    have hk : 0 < k := by
      have : (p.take k).length = r.length + 1 := by rw [hq]; rfl
      rw [List.length_take] at this
      omega
    rw [if_pos hk]
    simp only [List.map_cons, List.map_nil, List.cons_append]
    rw [Lib.join_cons, Lib.join_cons, joinTail_snoc]
    simp
theorem join_pre (p : List ByteArray) : ∀ k, (joinB (p.take k)).size ≤ (joinB p).size := by
  have hs : ∀ q : List ByteArray, (joinB q).size = (joinB q).data.toList.length := fun q => by rw [Array.length_toList]; rfl
  have step : ∀ k, (joinB (p.take k)).size ≤ (joinB (p.take (k + 1))).size := by
    intro k
    by_cases h : k < p.length
    · rw [hs, hs, join_next h]
      simp only [List.length_append]
      omega
    · rw [List.take_of_length_le (by omega), List.take_of_length_le (by omega)]
      exact Nat.le_refl _
  have up : ∀ d k, (joinB (p.take k)).size ≤ (joinB (p.take (k + d))).size := by
    intro d
    induction d with
    | zero => intro k; exact Nat.le_refl _
    | succ d ih => intro k; exact Nat.le_trans (ih k) (step (k + d))
  intro k
  by_cases h : k ≤ p.length
  · have := up (p.length - k) k
    rw [show k + (p.length - k) = p.length by omega, List.take_length] at this
    exact this
  · rw [List.take_of_length_le (by omega)]
    exact Nat.le_refl _
theorem join_part {p : List ByteArray} {k : Nat} (h : k < p.length) : (joinB (p.take k)).size + (if 0 < k then 1 else 0) + p[k].size ≤ (joinB p).size := by
  have hs : ∀ q : ByteArray, q.size = q.data.toList.length := fun q => by rw [Array.length_toList]; rfl
  have h1 := join_pre p (k + 1)
  have h2 := congrArg List.length (join_next h)
  rw [List.length_append, List.length_append, ← hs, ← hs, ← hs] at h2
  split
  · next q => rw [if_pos q] at h2; simp at h2; omega
  · next q => rw [if_neg q] at h2; simp at h2; omega
set_option maxRecDepth 100000 in
set_option maxHeartbeats 2000000 in
theorem rPath_any (a : Option Addr) (c : Nat) (p : List ByteArray) (w : World) (h : StrsAt w a c p) (hb : (joinB p).size ≤ 140737488355328) :
    Calls Tryd.prog 17 #[.slice a p.length c] w fun e w' => e = .returned (.string (joinB p)) ∧ w = w' := by
  have hr := h.room; have hc := h.cap
  unfold maxLen at hc
  have HST := hid h
  clear h
  go_enter Tryd.func17, Tryd.ntmps17
  go_wp2
  go_loop [8, 3] (fun x s => ∃ (k : Nat) (o : ByteArray), x = .int .i64 k ∧ s = .string o ∧ k ≤ p.length ∧ o.data.toList = (joinB (p.take k)).data.toList) (fun x _ => p.length - (intOf x).toNat)
  case atStart => exact ⟨0, ⟨#[]⟩, rfl, rfl, by omega, rfl⟩
  case round =>
    obtain ⟨k, o, rfl, rfl, hk, ho⟩ := hrel
    have hos : o.size = (joinB (p.take k)).size := by
      have := congrArg List.length ho
      rw [Array.length_toList, Array.length_toList] at this
      exact this
    have HO := hid ho
    clear ho
    by_cases hlt : k < p.length
    · obtain ⟨b1, o1, rfl, hb1, hc1⟩ := HST.out.get (by omega)
      have g0 := hc1 k hlt
      have HN := hid (join_next hlt)
      have hp := join_part hlt
      obtain ⟨t, ht⟩ : ∃ t, t = p[k] := ⟨_, rfl⟩
      rw [← ht] at g0 HN hp
      rw [← hos] at hp
      have hkI : (k : Int) < (p.length : Int) := by omega
      clear hc1 ht hos
      by_cases h0 : 0 < k
      · rw [if_pos h0] at HN hp
        have h0I : (0 : Int) < (k : Int) := by omega
        have hq : (⟨#[47]⟩ : ByteArray).size = 1 := rfl
        have hadd1 : ∀ w, (Op.stringOp .add o ⟨#[47]⟩).run Tryd.prog w = .ok (.string (o ++ ⟨#[47]⟩)) w := fun w => run_string_add_sum (w := w) _ _ (by omega)
        have hadd2 : ∀ w, (Op.stringOp .add (o ++ ⟨#[47]⟩) t).run Tryd.prog w = .ok (.string (o ++ ⟨#[47]⟩ ++ t)) w := fun w => run_string_add_sum (w := w) _ _ (by rw [ByteArray.size_append]; omega)
        clear hq hp
        go_wp2
        clear hadd1 hadd2
        go_round
        case rel => exact ⟨k + 1, o ++ ⟨#[47]⟩ ++ t, by simp, rfl, by omega, by rw [HN.out, ← HO.out]; simp⟩
        case measure => simp [intOf]; omega
      · rw [if_neg h0] at HN hp
        have hadd2 : ∀ w, (Op.stringOp .add o t).run Tryd.prog w = .ok (.string (o ++ t)) w := fun w => run_string_add_sum (w := w) _ _ (by omega)
        clear hp
        go_wp2
        clear hadd2
        go_round
        case rel => exact ⟨k + 1, o ++ t, by simp, rfl, by omega, by rw [HN.out, ← HO.out]; simp⟩
        case measure => simp [intOf]; omega
    · have hkl : p.take k = p := List.take_of_length_le (by omega)
      rw [hkl] at HO
      clear hos hkl
      go_wp2
      go_ret
      exact ⟨ret_str (bytes_ext HO.out), rfl⟩
/-- What the walk of a line needs of the world, without a builder. -/
structure Fq (w Q : World) (xb : Nat) (pa : Option Addr) (pc : Nat) (f : FileV) (pv : Bool) : Prop where
  n : New w Q
  x : Blk Q xb #[.slice pa f.path.length pc, .int .i64 f.len, .bool pv] 37
theorem Fq.new {w Q Q' : World} {xb : Nat} {pa : Option Addr} {pc : Nat} {f : FileV} {pv : Bool} (h : Fq w Q xb pa pc f pv) (n : New Q Q') : Fq w Q' xb pa pc f pv := ⟨h.n.trans n, n.blk h.x⟩
theorem Fq.drew {w Q : World} {xb : Nat} {pa : Option Addr} {pc : Nat} {f : FileV} {pv : Bool} (h : Fq w Q xb pa pc f pv) : Fq w Q.drew xb pa pc f pv := h.new (Mod.drew (Mod.refl _ _))
theorem Fq.cells {w Q : World} {xb : Nat} {pa : Option Addr} {pc : Nat} {f : FileV} {pv : Bool} (h : Fq w Q xb pa pc f pv) : Q.cell? ⟨xb, 0, none⟩ = some (.slice pa f.path.length pc) ∧ Q.cell? ⟨xb, 1, none⟩ = some (.int .i64 f.len) := ⟨h.x.cellv 0 rfl, h.x.cellv 1 rfl⟩
theorem add_bytes' (a b : ByteArray) : (a ++ b).data.toList = a.data.toList ++ b.data.toList := by simp
end Go.Proofs.YtnhgichiedninaaDoor
