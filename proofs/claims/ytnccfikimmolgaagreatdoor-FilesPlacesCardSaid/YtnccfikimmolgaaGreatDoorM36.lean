/-
  Several texts in one, in their build order. The walks of the ways' 'at' and 'has'. Conditions: as they stand.
-/
import Derived.Test.YtnccfikimmolgaaGreatDoorM33
import Derived.Test.YtnccfikimmolgaaGreatDoorM35
import Derived.Test.YtnccfikimmolgaaGreatDoorM5
import Derived.Deep.QuietTactic
import Derived.BigQuiet
namespace Go.Proofs.YtnccfikimmolgaaGreatDoor
set_option linter.unusedSimpArgs false
set_option linter.unusedVariables false
open Go.RowKit Go.Shelf

theorem ret_twoI {x y x' y' : Int} (h1 : x = x') (h2 : y = y') : Ending.returned (.tuple #[.int .i64 x, .int .i64 y]) = .returned (.tuple #[.int .i64 x', .int .i64 y']) := by rw [h1, h2]
theorem div_bd {x piece : Int} (h0 : 0 ≤ x) (hp : 16 ≤ piece) : x.tdiv piece = x / piece ∧ x.tmod piece = x % piece ∧ 0 ≤ x / piece ∧ x / piece ≤ x ∧ 0 ≤ x % piece ∧ x % piece < piece := by
  refine ⟨Int.tdiv_eq_ediv_of_nonneg h0, Int.tmod_eq_emod_of_nonneg h0, Int.ediv_nonneg h0 (by omega), Int.ediv_le_self _ h0, Int.emod_nonneg _ (by omega), Int.emod_lt_of_pos _ (by omega)⟩
set_option maxRecDepth 100000 in
set_option maxHeartbeats 2000000 in
theorem row_at (a : Option Addr) (c : Nat) (l : List FileV) (piece : Int) (k : Nat) (at' : Int) (w : World) (h : FilesAt w a c l) (hk : k < l.length) (hf : ∀ f ∈ l, 0 ≤ f.len) (hs : sumOf l ≤ 65536) (p1 : 16 ≤ piece) (p2 : piece ≤ 1024) (h0 : 0 ≤ at') (h1 : at' ≤ 65536) :
    Calls Tryz.prog 172 #[.agg #[.slice a l.length c, .int .i64 piece], .int .i64 k, .int .i64 at'] w fun e w' => e = .returned (.tuple #[.int .i64 (atI l piece false k at'), .int .i64 (atB l piece false k at')]) ∧ New w w' := by
  have hr := h.room; have hc := h.cap
  unfold maxLen at hc
  obtain ⟨b1, o1, rfl, hb1, -⟩ := h.get (by omega)
  have hsp := sum_split hk hf
  have hlk := hf _ (List.getElem_mem hk)
  have htl : (l.take k).length = k := by simp; omega
  have HT := hid (fun w' (n : New w w') => total_any (some ⟨b1, o1, none⟩) c (l.take k) w' ((h.new n).take k) (fun f hh => hf f (List.mem_of_mem_take hh)) (by omega))
  rw [htl] at HT
  unfold atI atB
  simp only [Bool.false_eq_true, if_false]
  obtain ⟨s, hs'⟩ : ∃ s, s = sumOf (l.take k) := ⟨_, rfl⟩
  rw [← hs'] at HT hsp ⊢
  have hs0 : 0 ≤ s := hsp.1
  have hs1 : s ≤ 65536 := by omega
  have hd := div_bd (show 0 ≤ at' + s by omega) p1
  have hcm : s + at' = at' + s := by omega
  rw [hcm]
  obtain ⟨e1, e2, e3, e4, e5, e6⟩ := hd
  have HE1 := hid e1; have HE2 := hid e2
  have HW1 := hid (IntWalk.i64_in ((at' + s) / piece) (by omega))
  clear htl h hf hs' hcm hlk hsp e1 e2
  have hkI : (k : Int) ≤ (c : Int) := by omega
  have hpz : ¬ piece = 0 := by omega
  go_enter Tryz.func172, Tryz.ntmps172
  go_wp2_with fail
  refine (HT.out _ ((Mod.refl (fun _ => False) w).alloc _)).mono ?_
  rintro e w1 ⟨rfl, n1⟩
  have N1 := hid (Mod.trans ((Mod.refl (fun _ => False) w).alloc _) n1)
  have r1 : w1.cell? ⟨w.heap.size, 1, none⟩ = some (.int .i64 piece) := (n1.blk (Blk.new w #[.slice (some ⟨b1, o1, none⟩) l.length c, .int .i64 piece] 106)).cellv 1 rfl
  clear n1
  go_wp2
  go_region_held3 (fun w' => w'.cell? ⟨w.heap.size, 1, none⟩ = some (.int .i64 piece)) (go_keep) (fail)
  go_wp2
  go_ret2
  exact ⟨ret_twoI (by rw [HE1.out]; first | rfl | exact HW1.out) (by first | rfl | rw [HE2.out]), N1.out.drew⟩
set_option maxRecDepth 100000 in
set_option maxHeartbeats 2000000 in
theorem apart_at (a : Option Addr) (c : Nat) (l : List FileV) (piece : Int) (k : Nat) (at' : Int) (w : World) (h : FilesAt w a c l) (hl : l.length ≤ 40) (hk : k < l.length) (hf : ∀ f ∈ l, 0 ≤ f.len ∧ f.len ≤ 65536) (p1 : 16 ≤ piece) (p2 : piece ≤ 1024) (h0 : 0 ≤ at') (h1 : at' ≤ 65536) :
    Calls Tryz.prog 166 #[.agg #[.slice a l.length c, .int .i64 piece], .int .i64 k, .int .i64 at'] w fun e w' => e = .returned (.tuple #[.int .i64 (atI l piece true k at'), .int .i64 (atB l piece true k at')]) ∧ New w w' := by
  have hr := h.room; have hc := h.cap
  unfold maxLen at hc
  obtain ⟨b1, o1, rfl, hb1, -⟩ := h.get (by omega)
  have htl : (l.take k).length = k := by simp; omega
  have hcn : ∀ m ≤ k, countsOf (l.take m) piece ≤ 70000 * m := by
    intro m
    induction m with
    | zero => intro _; simp [countsOf]
    | succ m ih =>
      intro hm
      have := counts_next (piece := piece) (show m < l.length by omega)
      have := count_bound (hf _ (List.getElem_mem (show m < l.length by omega))).1 (hf _ (List.getElem_mem (show m < l.length by omega))).2 p1 p2
      have := ih (by omega)
      omega
  have hc1 := hcn k (Nat.le_refl _)
  have hc0 := counts_nonneg (piece := piece) (by omega) (l := l.take k) (fun f hh => (hf f (List.mem_of_mem_take hh)).1)
  have HT := hid (fun w' (n : New w w') => apart_pieces (some ⟨b1, o1, none⟩) c (l.take k) piece w' ((h.new n).take k) (by simp; omega) (fun f hh => hf f (List.mem_of_mem_take hh)) p1 p2)
  rw [htl] at HT
  unfold atI atB
  simp only [if_true]
  obtain ⟨s, hs'⟩ : ∃ s, s = countsOf (l.take k) piece := ⟨_, rfl⟩
  rw [← hs'] at HT hc1 hc0 ⊢
  obtain ⟨e1, e2, e3, e4, e5, e6⟩ := div_bd h0 p1
  have HE1 := hid e1; have HE2 := hid e2
  have HW := hid (IntWalk.i64_in (s + at' / piece) (by omega))
  have HW1 := hid (IntWalk.i64_in (at' / piece) (by omega))
  clear htl h hf hs' e1 e2 hcn
  have hkI : (k : Int) ≤ (c : Int) := by omega
  have hkc : k ≤ c := by omega
  have hpz : ¬ piece = 0 := by omega
  go_enter Tryz.func166, Tryz.ntmps166
  go_wp2_with fail
  go_region_held3 (fun w' => w'.cell? ⟨w.heap.size, 0, none⟩ = some (.slice (some ⟨b1, o1, none⟩) l.length c) ∧ w'.cell? ⟨w.heap.size, 1, none⟩ = some (.int .i64 piece)) ((first | exact ⟨r0, r1⟩ | go_keep)) (first | (go_at_call 168; refine (HT.out _ ?_).mono ?_; (focus (exact (((Mod.refl _ _).alloc _).drew))); rintro e w1 ⟨rfl, n1⟩; have N1 := hid (Mod.trans ((((Mod.refl (fun _ => False) w).alloc _)).drew) n1); have B1 := n1.blk (Blk.drew (Blk.new w #[.slice (some ⟨b1, o1, none⟩) l.length c, .int .i64 piece] 105)); have r0 : w1.cell? ⟨w.heap.size, 0, none⟩ = some (.slice (some ⟨b1, o1, none⟩) l.length c) := B1.cellv 0 rfl; have r1 : w1.cell? ⟨w.heap.size, 1, none⟩ = some (.int .i64 piece) := B1.cellv 1 rfl; clear n1 B1))
  go_wp2
  go_region_held3 (fun w' => w'.cell? ⟨w.heap.size, 1, none⟩ = some (.int .i64 piece)) (go_keep) (fail)
  go_wp2
  go_ret2
  exact ⟨ret_twoI (by first | rfl | (rw [HE1.out, HW1.out]; exact HW.out)) (by first | rfl | rw [HE2.out]), N1.out.drew⟩
theorem meth_ahas (v : Value) (w : World) : (method 308 105 v "covey/files.has").run Tryz.prog w = .ok (167, v) w := by kernel_rfl
theorem meth_rhas (v : Value) (w : World) : (method 308 106 v "covey/files.has").run Tryz.prog w = .ok (173, v) w := by kernel_rfl
theorem meth_aat (v : Value) (w : World) : (method 308 105 v "covey/files.at").run Tryz.prog w = .ok (166, v) w := by kernel_rfl
theorem meth_rat (v : Value) (w : World) : (method 308 106 v "covey/files.at").run Tryz.prog w = .ok (172, v) w := by kernel_rfl
set_option maxHeartbeats 1000000 in
theorem rowhas_any (a : Option Addr) (n c : Nat) (piece : Int) (pa : Option Addr) (pc : Nat) (f : FileV) (w : World) :
    Calls Tryz.prog 173 #[.agg #[.slice a n c, .int .i64 piece], fileV pa pc f] w fun e w' => e = .returned (.bool (hasW false f)) ∧ New w w' := by
  have e : hasW false f = decide (0 < f.len) := by simp [hasW]
  rw [e]
  go_enter Tryz.func173, Tryz.ntmps173
  go_wp2
  go_ret
  exact ⟨rfl, ((Mod.refl _ _).alloc _).alloc _⟩
end Go.Proofs.YtnccfikimmolgaaGreatDoor
