/-
  Several texts in one, in their build order. The walks of Wrong (whole), Valid, total, Total, Piece, of package files; of total and Piece of the reference. Conditions: the list lies as told; the library's table is as laid. The walks of named and Wrong (the reference). Conditions: the file, the list lie as told.
-/
import Derived.Test.YtnhgichiedninaaGreatDoorM13
import Derived.Test.YtnhgichiedninaaGreatDoorM5
import Derived.Test.YtnhgichiedninaaGreatDoorM6
import Derived.Test.YtnhgichiedninaaGreatDoorM3
import Derived.Deep.RegionHeld3
import Derived.BigQuiet
namespace Go.Proofs.YtnhgichiedninaaGreatDoor
set_option linter.unusedSimpArgs false
set_option linter.unusedVariables false
open Go.RowKit

theorem wrong_any (a : Option Addr) (c : Nat) (l : List FileV) (w : World) (h : FilesAt w a c l) (ht : Tab w) :
    Calls Tryz.prog 94 #[.slice a l.length c] w fun e w' => e = .returned (.tuple #[.int .i64 (wrongOf l).1, .int .i64 (wrongOf l).2]) ∧ New w w' := by
  by_cases hl : l.length = 0 ∨ 40 < l.length
  · have e : wrongOf l = (0, 4) := by unfold wrongOf; rw [if_pos hl]
    rw [e]
    have := h.room; have := h.cap
    unfold maxLen at *
    exact wrong_limit a l.length c w (by omega) hl
  · have e : wrongOf l = goA (l.length - 1) 0 [] [] 0 l := by unfold wrongOf; rw [if_neg hl]
    rw [e]
    exact wrong_go a c l w h ht (by omega) (by omega)
set_option maxHeartbeats 1000000 in
theorem valid_any (a : Option Addr) (c : Nat) (l : List FileV) (w : World) (h : FilesAt w a c l) (ht : Tab w) :
    Calls Tryz.prog 64 #[.slice a l.length c] w fun e w' => e = .returned (.bool (validOf l)) ∧ New w w' := by
  have HW := hid (wrong_any a c l w h ht)
  clear h ht
  go_enter Tryz.func64, Tryz.ntmps64
  go_wp2_with (go_at_call 94; refine HW.out.mono ?_; rintro e w1 ⟨rfl, h1⟩; have H1 := hid h1; clear h1)
  go_ret
  refine ⟨ret_bool ?_, H1.out⟩
  rw [validOf, Bool.eq_iff_iff]
  simp

def sumOf (l : List FileV) : Int := (l.map (·.len)).sum
theorem sum_next {l : List FileV} {k : Nat} (h : k < l.length) : sumOf (l.take (k + 1)) = sumOf (l.take k) + l[k].len := by
  unfold sumOf
  rw [List.take_add_one, List.getElem?_eq_getElem h]
  simp only [Option.toList, List.map_append, List.map_cons, List.map_nil, List.sum_append, List.sum_cons, List.sum_nil]
  omega
theorem sum_mono : ∀ (l : List FileV), (∀ f ∈ l, 0 ≤ f.len) → ∀ k, 0 ≤ sumOf (l.take k) ∧ sumOf (l.take k) ≤ sumOf l
  | [], _, k => by simp [sumOf]
  | f :: r, h, 0 => by
    have := sum_mono r (fun g hg => h g (.tail _ hg)) r.length
    have := h f (.head _)
    simp only [List.take_length, sumOf, List.take_zero, List.map_nil, List.sum_nil, List.map_cons, List.sum_cons] at *
    omega
  | f :: r, h, k + 1 => by
    have := sum_mono r (fun g hg => h g (.tail _ hg)) k
    have := h f (.head _)
    simp only [sumOf, List.take_succ_cons, List.map_cons, List.sum_cons] at *
    omega

set_option maxRecDepth 100000 in
set_option maxHeartbeats 1000000 in
theorem total_any (a : Option Addr) (c : Nat) (l : List FileV) (w : World) (h : FilesAt w a c l) (hp : ∀ f ∈ l, 0 ≤ f.len) (hb : sumOf l ≤ 4611686018427387904) :
    Calls Tryz.prog 222 #[.slice a l.length c] w fun e w' => e = .returned (.int .i64 (sumOf l)) ∧ New w w' := by
  have hm1 := h.room; have hm2 := h.cap
  unfold maxLen at hm2
  have HM := hid (sum_mono l hp)
  have HB := hid hb
  clear hp hb
  by_cases hz : 0 < l.length
  · obtain ⟨b1, o1, rfl, hb1, hc1⟩ := h.get hz
    have HC1 := hid hc1
    clear h hc1
    go_enter Tryz.func222, Tryz.ntmps222
    go_wp2
    go_loopw [8, 3] (fun i n wr => ∃ k : Nat, i = .int .i64 k ∧ n = .int .i64 (sumOf (l.take k)) ∧ k ≤ l.length ∧ New w wr) (fun i _ _ => l.length - (intOf i).toNat)
    case atStart => exact ⟨0, rfl, rfl, by omega, Mod.refl _ _⟩
    case round =>
      obtain ⟨k, rfl, rfl, hk, hn⟩ := hrel
      have HN := hid hn
      by_cases hlt : k < l.length
      · obtain ⟨pa, pc, g0, g1, g2, -, g3⟩ := (HC1.out k hlt).new hn
        clear hn
        have HS := hid (sum_next hlt)
        obtain ⟨f, hf⟩ : ∃ f, f = l[k] := ⟨_, rfl⟩
        rw [← hf] at g0 g1 g2 g3 HS
        clear hf
        have q1 := (HM.out k).1
        have q2 := (HM.out (k + 1)).1
        have q3 := (HM.out (k + 1)).2
        rw [HS.out] at q2 q3
        have q4 := HB.out
        clear q3
        have q3 : sumOf (l.take k) + f.len ≤ 4611686018427387904 := by have := (HM.out (k + 1)).2; rw [HS.out] at this; omega
        clear q4
        go_wp2
        exact ⟨⟨k + 1, by simp, by rw [HS.out], by omega, HN.out.alloc _⟩, by simp [intOf]; omega⟩
      · have hkl : l.take k = l := List.take_of_length_le (by omega)
        rw [hkl]
        clear hkl
        go_wp2
        go_ret
        exact ⟨rfl, HN.out⟩
  · obtain rfl : l = [] := List.eq_nil_of_length_eq_zero (by omega)
    clear h
    go_enter Tryz.func222, Tryz.ntmps222
    go_wp2
    refine wp_loop_rounds 1 ?_
    rw [rounds_succ]
    go_wp2
    go_ret
    exact ⟨rfl, Mod.refl _ _⟩
theorem go_ok (last : Nat) : ∀ (l : List FileV) (i : Nat) (M A : List ByteArray) (tot : Int), (goA last i M A tot l).2 = 0 → (∀ f ∈ l, 0 ≤ f.len) ∧ (0 < l.length → tot + sumOf l ≤ 65536)
  | [], _, _, _, _, _ => ⟨by simp, by simp⟩
  | f :: r, i, M, A, tot, h => by
    unfold goA at h
    cases he : errA M A tot i last f with
    | some e =>
      rw [he] at h
      exfalso
      simp at h
      subst h
      unfold errA at he
      repeat' (split at he <;> try (simp at he))
    | none =>
      rw [he] at h
      obtain ⟨z1, z2⟩ := err_some he
      obtain ⟨y1, y2⟩ := go_ok last r _ _ _ _ h
      refine ⟨fun g hg => ?_, fun _ => ?_⟩
      · cases hg with
        | head => omega
        | tail _ hg => exact y1 g hg
      · simp only [sumOf, List.map_cons, List.sum_cons] at *
        cases r with
        | nil => simp; omega
        | cons x r => have := y2 (by simp); omega
/-- A valid list is short, its lengths are no less than nothing, and together within the bound. -/
theorem valid_facts {l : List FileV} (h : validOf l = true) : 1 ≤ l.length ∧ l.length ≤ 40 ∧ (∀ f ∈ l, 0 ≤ f.len) ∧ sumOf l ≤ 65536 := by
  unfold validOf wrongOf at h
  split at h
  · simp at h
  · next hn =>
    obtain ⟨y1, y2⟩ := go_ok _ l _ _ _ _ (by simpa using h)
    have := y2 (by omega)
    exact ⟨by omega, by omega, y1, by omega⟩
/-- Total. -/
def totalOf (l : List FileV) : Int × Int := if validOf l then (sumOf l, 0) else (0, 1)
/-- Piece. -/
def pieceOf (n : Int) : Bool := decide (n = 16 ∨ n = 32 ∨ n = 64 ∨ n = 128 ∨ n = 256 ∨ n = 512 ∨ n = 1024)
theorem and_all : ∀ m : _root_.Fin 1025, 16 ≤ m.val → (bits BinOp.and IntKind.i64 (m.val : Int) ((m.val : Int) - 1) == 0) = pieceOf m.val := by decide +kernel
theorem and_piece {n : Int} (h1 : 16 ≤ n) (h2 : n ≤ 1024) : (bits BinOp.and IntKind.i64 n (n - 1) == 0) = pieceOf n := by
  obtain ⟨m, rfl⟩ := Int.eq_ofNat_of_zero_le (show 0 ≤ n by omega)
  exact and_all ⟨m, by omega⟩ (by simpa using by omega)
set_option maxRecDepth 100000 in
set_option maxHeartbeats 1000000 in
theorem piece_any (n : Int) (w : World) (h0 : -9223372036854775808 ≤ n) (h1 : n ≤ 9223372036854775807) :
    Calls Tryz.prog 153 #[.int .i64 n] w fun e w' => e = .returned (.bool (pieceOf n)) ∧ w = w' := by
  by_cases p1 : 16 ≤ n
  · by_cases p2 : n ≤ 1024
    · go_enter Tryz.func153, Tryz.ntmps153
      go_wp2
      go_ret
      exact ⟨ret_bool (and_piece p1 p2), rfl⟩
    · have e : pieceOf n = false := by simp only [pieceOf, decide_eq_false_iff_not]; omega
      rw [e]
      clear e
      go_enter Tryz.func153, Tryz.ntmps153
      go_wp2
      go_ret
      exact ⟨rfl, rfl⟩
  · have e : pieceOf n = false := by simp only [pieceOf, decide_eq_false_iff_not]; omega
    rw [e]
    clear e
    go_enter Tryz.func153, Tryz.ntmps153
    go_wp2
    go_ret
    exact ⟨rfl, rfl⟩
set_option maxRecDepth 100000 in
set_option maxHeartbeats 1000000 in
theorem rpiece_any (n : Int) (w : World) (h0 : -9223372036854775808 ≤ n) (h1 : n ≤ 9223372036854775807) :
    Calls Tryz.prog 102 #[.int .i64 n] w fun e w' => e = .returned (.bool (pieceOf n)) ∧ w = w' := by
  go_enter Tryz.func102, Tryz.ntmps102
  go_wp2
  go_loopw [3] (fun i wr => ∃ p : Int, i = .int .i64 p ∧ wr = w ∧ (p = 16 ∨ (p = 32 ∧ n ≠ 16) ∨ (p = 64 ∧ n ≠ 16 ∧ n ≠ 32) ∨ (p = 128 ∧ n ≠ 16 ∧ n ≠ 32 ∧ n ≠ 64) ∨ (p = 256 ∧ n ≠ 16 ∧ n ≠ 32 ∧ n ≠ 64 ∧ n ≠ 128) ∨ (p = 512 ∧ n ≠ 16 ∧ n ≠ 32 ∧ n ≠ 64 ∧ n ≠ 128 ∧ n ≠ 256) ∨ (p = 1024 ∧ n ≠ 16 ∧ n ≠ 32 ∧ n ≠ 64 ∧ n ≠ 128 ∧ n ≠ 256 ∧ n ≠ 512) ∨ (p = 2048 ∧ pieceOf n = false))) (fun i _ => 4096 - (intOf i).toNat)
  case atStart => exact ⟨16, rfl, rfl, .inl rfl⟩
  case round =>
    obtain ⟨p, rfl, rfl, hp⟩ := hrel
    by_cases hlt : p ≤ 1024
    · have hpp : 16 ≤ p := by omega
      by_cases he : p = n
      · have hb : (p == n) = true := by simp [he]
        have HP := hid (show pieceOf n = true by simp only [pieceOf, decide_eq_true_eq]; omega)
        clear hp he
        go_wp2
        go_ret
        exact ⟨ret_bool HP.out.symm, rfl⟩
      · have hb : (p == n) = false := by simp [he]
        have HP := hid hp
        have HE := hid he
        clear hp he
        go_wp2
        refine ⟨⟨p * 2, rfl, trivial, ?_⟩, by simp [intOf]; omega⟩
        have he := HE.out
        rcases HP.out with h | h | h | h | h | h | h | h
        · exact .inr (.inl (by omega))
        · exact .inr (.inr (.inl (by omega)))
        · exact .inr (.inr (.inr (.inl (by omega))))
        · exact .inr (.inr (.inr (.inr (.inl (by omega)))))
        · exact .inr (.inr (.inr (.inr (.inr (.inl (by omega))))))
        · exact .inr (.inr (.inr (.inr (.inr (.inr (.inl (by omega)))))))
        · exact .inr (.inr (.inr (.inr (.inr (.inr (.inr ⟨by omega, by simp only [pieceOf, decide_eq_false_iff_not]; omega⟩))))))
        · omega
    · have HP := hid (show pieceOf n = false by rcases hp with h | h | h | h | h | h | h | h <;> first | omega | exact h.2)
      clear hp
      go_wp2
      go_ret
      exact ⟨ret_bool HP.out.symm, rfl⟩
end Go.Proofs.YtnhgichiedninaaGreatDoor

namespace Go.Proofs.YtnhgichiedninaaGreatDoor
set_option linter.unusedSimpArgs false
set_option linter.unusedVariables false
open Go.RowKit

theorem parts_upto {p : List ByteArray} {k : Nat} (hk : ¬ k < p.length) (h : ∀ (j : Nat) (hj : j < p.length), j < k → partOk p[j] = true) : p.all partOk = true := by
  rw [List.all_eq_true]
  intro x hx
  obtain ⟨j, hj, rfl⟩ := List.mem_iff_getElem.1 hx
  exact h j hj (by omega)
theorem parts_not {p : List ByteArray} {k : Nat} (hk : k < p.length) (h : partOk p[k] = false) : p.all partOk = false := by
  rw [List.all_eq_false]
  exact ⟨_, List.getElem_mem hk, by simp [h]⟩

set_option maxRecDepth 100000 in
set_option maxHeartbeats 2000000 in
theorem named_pad (pa : Option Addr) (pc : Nat) (f : FileV) (w : World) (h : StrsAt w pa pc f.path) (hl : -9223372036854775808 ≤ f.len ∧ f.len ≤ 9223372036854775807) (hp : f.pad = true) :
    Calls Tryz.prog 134 #[fileV pa pc f] w fun e w' => e = .returned (.bool (decide (f.path = padPath f.len))) ∧ New w w' := by
  have hr := h.room; have hr2 := h.cap
  unfold maxLen at hr2
  obtain ⟨path, len, pad⟩ := f
  dsimp only at *
  subst hp
  by_cases h2 : path.length = 2
  · obtain ⟨x, y, rfl⟩ : ∃ x y, path = [x, y] := by
      match path, h2 with
      | [x, y], _ => exact ⟨x, y, rfl⟩
    obtain ⟨pb, po, rfl, hpb, hpc⟩ := h.get (by simp)
    have c0 : w.cell? ⟨pb, po, none⟩ = some (.string x) := hpc 0 (by simp)
    have c1 : w.cell? ⟨pb, po + 1, none⟩ = some (.string y) := hpc 1 (by simp)
    have HL := hid hl
    have HD := hid (fun w => decimal_any len hl.1 hl.2 w)
    clear h hpc hl h2
    cases e0 : x.toList == [46, 112, 97, 100] with
    | false =>
      have HE := hid (show decide ([x, y] = padPath len) = false by
        rw [lit_eq] at e0
        simp only [decide_eq_false_iff_not] at e0 ⊢
        intro h
        simp [padPath] at h
        exact e0 h.1)
      go_enter Tryz.func134, Tryz.ntmps134
      go_wp2
      go_quiet (fail)
      go_wp2
      go_ret
      exact ⟨ret_bool HE.out.symm, (((Mod.refl _ _).alloc _).drewN _)⟩
    | true =>
      have HE := hid (show decide ([x, y] = padPath len) = decide (y = itoaB len) by
        rw [lit_eq] at e0
        simp only [decide_eq_true_eq] at e0
        subst e0
        rw [Bool.eq_iff_iff]
        simp [padPath, dotpad])
      have HW := hid (two_eq y (itoaB len))
      go_enter Tryz.func134, Tryz.ntmps134
      go_wp2
      go_region_held3 (fun w' => w'.cell? ⟨w.heap.size, 0, none⟩ = some (.slice (some ⟨pb, po, none⟩) 2 pc) ∧ w'.cell? ⟨w.heap.size, 1, none⟩ = some (.int .i64 len) ∧ w'.cell? ⟨pb, po, none⟩ = some (.string x) ∧ w'.cell? ⟨pb, po + 1, none⟩ = some (.string y)) ((first | exact ⟨r0, r1, r2, r3⟩ | go_keep)) (first | (go_at_call 155; refine (HD.out _).mono ?_; rintro e w1 ⟨rfl, n1⟩; have N1 := hid (Mod.trans ((((Mod.refl (fun _ => False) w).alloc _)).drew) n1); have B1 := n1.blk (Blk.drew (Blk.new w #[.slice (some ⟨pb, po, none⟩) 2 pc, .int .i64 len, .bool true] 60)); have r0 : w1.cell? ⟨w.heap.size, 0, none⟩ = some (.slice (some ⟨pb, po, none⟩) 2 pc) := B1.cellv 0 rfl; have r1 : w1.cell? ⟨w.heap.size, 1, none⟩ = some (.int .i64 len) := B1.cellv 1 rfl; have r2 := New.cellv N1.out c0; have r3 := New.cellv N1.out c1; clear n1 B1))
      all_goals go_wp2
      all_goals go_ret
      all_goals exact ⟨ret_bool (HW.out.trans HE.out.symm), N1.out⟩
  · have HE := hid (show decide (path = padPath len) = false by
      simp only [decide_eq_false_iff_not]
      intro h
      rw [h] at h2
      exact h2 rfl)
    have hb : ((path.length : Int) == 2) = false := beq_eq_false_iff_ne.2 (by omega)
    clear h hl
    go_enter Tryz.func134, Tryz.ntmps134
    go_wp2
    go_quiet (fail)
    go_wp2
    go_ret
    exact ⟨ret_bool HE.out.symm, (((Mod.refl _ _).alloc _).drewN _)⟩

set_option maxRecDepth 100000 in
set_option maxHeartbeats 2000000 in
theorem named_file (pa : Option Addr) (pc : Nat) (f : FileV) (w : World) (h : StrsAt w pa pc f.path) (hp : f.pad = false) :
    Calls Tryz.prog 134 #[fileV pa pc f] w fun e w' => e = .returned (.bool (f.path.all partOk && decide (1 ≤ f.path.length) && decide (f.path.length ≤ 8) && !decide (f.path.head? = some dotpad))) ∧ New w w' := by
  have hr := h.room; have hr2 := h.cap
  unfold maxLen at hr2
  obtain ⟨path, len, pad⟩ := f
  dsimp only at *
  subst hp
  by_cases hz : 0 < path.length
  · obtain ⟨pb, po, rfl, hpb, hpc⟩ := h.get hz
    have HS := hid h.small
    have HPC := hid hpc
    clear h hpc
    go_enter Tryz.func134, Tryz.ntmps134
    go_wp2
    go_loopw [31] (fun i wr => ∃ k : Nat, i = .int .i64 k ∧ k ≤ path.length ∧ (∀ (j : Nat) (hj : j < path.length), j < k → partOk path[j] = true) ∧ wr = w.alloc (.cells #[.slice (some ⟨pb, po, none⟩) path.length pc, .int .i64 len, .bool false] 60)) (fun i _ => path.length - (intOf i).toNat)
    case atStart => exact ⟨0, rfl, by omega, by intros; omega, rfl⟩
    case round =>
      obtain ⟨k, rfl, hk, hb, rfl⟩ := hrel
      have HB := hid hb
      clear hb
      by_cases hlt : k < path.length
      · have g1 := HPC.out k hlt
        have hsz : (path[k]).size ≤ maxLen := HS.out _ (List.getElem_mem hlt)
        obtain ⟨s, hs⟩ : ∃ s, s = path[k] := ⟨_, rfl⟩
        rw [← hs] at g1 hsz
        have HP := hid (fun w => rPart_any s w hsz)
        have HSK := hid hs
        clear hsz hs
        cases he : partOk s with
        | true =>
          rw [he] at HP
          have HE := hid he
          clear he
          go_wp2_with (go_at_call 156; refine (HP.out _).mono ?_; rintro e w1 ⟨rfl, rfl⟩)
          exact ⟨⟨k + 1, by simp, by omega, fun j hj h => by rcases Nat.lt_succ_iff_lt_or_eq.1 h with h | h; exact HB.out j hj h; subst h; rw [← HSK.out]; exact HE.out, trivial⟩, by simp [intOf]; omega⟩
        | false =>
          rw [he] at HP
          have HE := hid (parts_not hlt (by rw [← HSK.out]; exact he))
          clear he
          go_wp2_with (go_at_call 156; refine (HP.out _).mono ?_; rintro e w1 ⟨rfl, rfl⟩)
          go_ret
          exact ⟨ret_bool (by rw [HE.out]; rfl), (Mod.refl _ _).alloc _⟩
      · have HE := hid (parts_upto hlt (fun j hj h => HB.out j hj h))
        have h1 : (1 : Int) ≤ path.length := by omega
        have c0 : w.cell? ⟨pb, po, none⟩ = some (.string path[0]) := by simpa using HPC.out 0 hz
        have HH := hid (show decide (path.head? = some dotpad) = (path[0].toList == [46, 112, 97, 100]) by
          rw [lit_eq, List.head?_eq_getElem?, List.getElem?_eq_getElem hz, Bool.eq_iff_iff]
          simp [dotpad])
        obtain ⟨x, hx⟩ : ∃ x, x = path[0] := ⟨_, rfl⟩
        rw [← hx] at c0 HH
        clear hx
        by_cases h8 : path.length ≤ 8
        · have h8' : (path.length : Int) ≤ 8 := by omega
          have HV := hid (show (path.all partOk && decide (1 ≤ path.length) && decide (path.length ≤ 8) && !decide (path.head? = some dotpad)) = !(x.toList == [46, 112, 97, 100]) by
            rw [HE.out, HH.out, decide_eq_true (show 1 ≤ path.length by omega), decide_eq_true h8]; rfl)
          go_wp2
          all_goals go_ret
          all_goals exact ⟨ret_bool (by first | exact HV.out.symm | (simp; done) | (rw [← HV.out]; simp)), (Mod.refl _ _).alloc _⟩
        · have h8' : ¬ (path.length : Int) ≤ 8 := by omega
          have HV := hid (show (path.all partOk && decide (1 ≤ path.length) && decide (path.length ≤ 8) && !decide (path.head? = some dotpad)) = false by
            rw [decide_eq_false h8]; simp)
          go_wp2
          all_goals go_ret
          all_goals exact ⟨ret_bool (by first | exact HV.out.symm | (simp; done) | (rw [← HV.out]; simp)), (Mod.refl _ _).alloc _⟩
  · obtain rfl : path = [] := List.eq_nil_of_length_eq_zero (by omega)
    clear h
    go_enter Tryz.func134, Tryz.ntmps134
    go_wp2
    refine wp_loop_rounds 1 ?_
    rw [rounds_succ]
    go_wp2
    go_ret
    exact ⟨rfl, (Mod.refl _ _).alloc _⟩
theorem named_any (pa : Option Addr) (pc : Nat) (f : FileV) (w : World) (h : StrsAt w pa pc f.path) (hl : -9223372036854775808 ≤ f.len ∧ f.len ≤ 9223372036854775807) :
    Calls Tryz.prog 134 #[fileV pa pc f] w fun e w' => e = .returned (.bool (namedR f)) ∧ New w w' := by
  cases hp : f.pad with
  | true =>
    have e : namedR f = decide (f.path = padPath f.len) := by simp [namedR, hp]
    rw [e]
    exact named_pad pa pc f w h hl hp
  | false =>
    have e : namedR f = (f.path.all partOk && decide (1 ≤ f.path.length) && decide (f.path.length ≤ 8) && !decide (f.path.head? = some dotpad)) := by simp [namedR, hp]
    rw [e]
    exact named_file pa pc f w h hp
end Go.Proofs.YtnhgichiedninaaGreatDoor
