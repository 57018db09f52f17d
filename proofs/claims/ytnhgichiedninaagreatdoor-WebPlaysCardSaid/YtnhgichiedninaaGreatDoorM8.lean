/-
  Several texts in one, in their build order. The walk of open (package bits) for one field, and Has and Set. Conditions: the field is right; at most 4096 bits. How a client of web seeds lies in memory, and the walks that read it alone: has, flying, at. Conditions: it lies as told.
-/
import Derived.Test.YtnhgichiedninaaGreatDoorM7
import Derived.Test.YtnhgichiedninaaGreatDoorM6
import Derived.Deep.RegionHeld3
namespace Go.Proofs.YtnhgichiedninaaGreatDoor
set_option linter.unusedSimpArgs false
set_option linter.unusedVariables false
open Go.RowKit

theorem info_field : (Tryz.prog.info? 163).map (fun i => (i.zero, i.size, i.bytes)) = some (some (.agg #[.int .i64 0, .slice none 0 0]), 2, 32) := by kernel_rfl
theorem two_new (w : World) (x y : Value) (t : TypeId) {b : Nat} (hb : b = w.heap.size) : ∀ (j : Nat) (u : Value), [x, y][j]? = some u → (w.alloc (.cells #[x, y] t)).cell? ((⟨b, 0, none⟩ : Addr).add j) = some u := by
  intro j u hj
  have hadd : ∀ k, (⟨b, 0, none⟩ : Addr).add k = ⟨b, 0 + k, none⟩ := fun k => by unfold Addr.add; split <;> simp_all
  rw [hadd]
  have hB := Blk.newAt (cs := #[x, y]) (t := t) hb
  match j, hj with
  | 0, hj => simp at hj; subst hj; exact hB.cellv 0 rfl
  | 1, hj => simp at hj; subst hj; exact hB.cellv 1 rfl
/-- What open answers for one field: its list, and its bytes. -/
def Opened (w : World) (base : Nat) (v : Value) (n : Nat) (s : ByteArray) : Prop :=
  ∃ (G cap B cb : Nat), v = .slice (some ⟨G, 0, none⟩) 1 cap ∧ 1 ≤ cap ∧ cap ≤ maxLen ∧ G < w.heap.size ∧ w.cell? ⟨G, 0, none⟩ = some (.int .i64 n) ∧ w.cell? ⟨G, 1, none⟩ = some (.slice (some ⟨B, 0, none⟩) s.size cb) ∧ ByAt w B s.data.toList ∧ base ≤ B
theorem Opened.new {w w' : World} {base : Nat} {v : Value} {n : Nat} {s : ByteArray} (h : Opened w base v n s) (hn : New w w') : Opened w' base v n s := by
  obtain ⟨G, cap, B, cb, h1, h2, h3, h4, h5, h6, h7, h8⟩ := h
  exact ⟨G, cap, B, cb, h1, h2, h3, Nat.lt_of_lt_of_le h4 hn.size, New.cellv hn h5, New.cellv hn h6, h7.new hn, h8⟩
set_option maxRecDepth 100000 in
set_option maxHeartbeats 2000000 in
theorem bopen_one (n : Nat) (s : ByteArray) (a c : Nat) (w : World) (h : FieldOf n s.data.toList) (hn : n ≤ 4096) (ha : w.cell? ⟨a, 0, none⟩ = some (.string s)) (hc : 1 ≤ c) (hc2 : c ≤ maxLen) :
    Calls Tryz.prog 123 #[.int .i64 n, .slice (some ⟨a, 0, none⟩) 1 c] w fun e w' => ∃ v, e = .returned v ∧ Opened w' w.heap.size v n s ∧ New w w' := by
  unfold maxLen at hc2
  have HW := hid (fun W => bwrong_ok n s W h hn)
  have hlen : s.data.toList.length = s.size := by rw [Array.length_toList]; rfl
  have hl := h.len
  rw [hlen] at hl
  have hss : s.size ≤ 600 := by omega
  have hal := World.block_lt_of_cell? _ _ ha
  have HA := hid ha
  obtain ⟨i0, hi, hz0, hz1, hz2⟩ := info_parts info_field
  have hd1 : decide ((n : Int) < 0) = false := decide_eq_false (by omega)
  have hd2 : decide (4096 < (n : Int)) = false := decide_eq_false (by omega)
  clear h hlen hl ha
  go_enter Tryz.func123, Tryz.ntmps123
  go_wp2_with (first | (go_at_call 124; refine (bfail_pass _ _).mono ?_; rintro e w1 ⟨rfl, rfl⟩) | fail)
  go_loopw [5, 19] (fun v i wr => ∃ k : Nat, i = .int .i64 k ∧ ((k = 0 ∧ v = .slice none 0 0 ∧ New w wr) ∨ (k = 1 ∧ Opened wr w.heap.size v n s ∧ New w wr))) (fun _ i _ => 1 - (intOf i).toNat)
  case atStart => exact ⟨0, rfl, .inl ⟨rfl, rfl, Mod.refl _ _⟩⟩
  case round =>
    obtain ⟨k, rfl, ⟨rfl, rfl, hn'⟩ | ⟨rfl, ho, hn'⟩⟩ := hrel
    · have HN := hid hn'
      have ca := New.cellv hn' HA.out
      have cl : a < wr.heap.size := World.block_lt_of_cell? _ _ ca
      clear hn'
      go_wp2_with fail
      refine (HW.out _).mono ?_
      rintro e w1 ⟨rfl, n1⟩
      have N1 := hid (HN.out.trans n1)
      clear n1
      have hcv := bytes_of w1 s
      obtain ⟨cap, hcap⟩ : ∃ cap, cap = grownCap w1 s.size 0 5 := ⟨_, rfl⟩
      rw [← hcap] at hcv
      have HBY := hid (bytes_lie w1 s rfl)
      have HBN := hid (N1.out.trans (bytes_new w1 s))
      obtain ⟨W, hW⟩ : ∃ W, W = afterBytes w1 s := ⟨_, rfl⟩
      rw [← hW] at hcv HBY HBN
      have hWs : W.heap.size = w1.heap.size + 1 := by rw [hW]; simp
      clear hW hcap
      go_wp2_with (first | (go_at_call 124; refine (bfail_pass _ _).mono ?_; rintro e w1 ⟨rfl, rfl⟩) | (at_builtin; refine wpList_append_own_at _ rfl _ _ 179 rfl w.heap.size 163 i0 _ 2 32 Tryz.underlying179 hi hz0 hz1 hz2 rfl (by decide) (.slice none 0 0) 0 [] rfl ?ow ⟨w1.heap.size + 1, 0, none⟩ 1 1 [.int .i64 n, .slice (some ⟨w1.heap.size, 0, none⟩) s.size cap] rfl rfl ?hn ?h1 ?h63 ?hby ?hba ?_) | fail)
      case ow => exact World.ownsRow_nil _ _ _ _
      case hn => exact two_new W _ _ _ hWs.symm
      case h1 => intro u hu; simp at hu; rcases hu with rfl | rfl <;> rfl
      case h63 => unfold maxLen; omega
      case hby => omega
      case hba => have := HBN.out.size; simp; omega
      intro o4 w4 r4 g4 hne _
      have HN4 : Hid (New w w4) := hid (newGrown (HBN.out.alloc _) g4 (fun j hj => by cases hj))
      have HOP : Hid (Opened w4 w.heap.size o4 n s) := hid (by
        rcases r4.2 with ⟨q, -⟩ | ⟨G, cap', cur, rfl, hbg, hg, hnc, hcm, hcs, htake⟩
        · exact absurd q hne
        · have hb : Blk w4 G cur 163 := hg
          have hc' : ∀ (j : Nat) (u : Value), j < 2 → [Value.int .i64 n, Value.slice (some ⟨w1.heap.size, 0, none⟩) s.size cap][j]? = some u → w4.cell? ⟨G, j, none⟩ = some u := by
            intro j u hj hu
            have h1 := World.ownsRow.cells (g := G) r4 rfl j u hu
            have hadd : ∀ k, (⟨G, 0, none⟩ : Addr).add k = ⟨G, 0 + k, none⟩ := fun k => by unfold Addr.add; split <;> simp_all
            rw [hadd, Nat.zero_add] at h1
            exact h1
          refine ⟨G, cap', w1.heap.size, cap, rfl, hnc, hcm, hb.lt, hc' 0 _ (by omega) rfl, hc' 1 _ (by omega) rfl, ?_, N1.out.size⟩
          have hby := (HBY.out.new ((Mod.refl _ _).alloc (.cells #[.int .i64 n, .slice (some ⟨w1.heap.size, 0, none⟩) s.size cap] 163)))
          exact hby.of_heap (g4.block _ hby.lt (fun q => by cases q)))
      clear r4 g4
      go_wp2
      exact ⟨⟨1, by simp, .inr ⟨rfl, HOP.out, HN4.out⟩⟩, by simp [intOf]⟩
    · have HO := hid ho; have HN := hid hn'
      clear ho hn'
      go_wp2
      go_ret
      exact ⟨_, rfl, HO.out, HN.out⟩
set_option maxRecDepth 100000 in
set_option maxHeartbeats 2000000 in
theorem bHas_any (n i : Nat) (s : ByteArray) (w : World) (h : FieldOf n s.data.toList) (hn : n ≤ 4096) (hi : i < n) :
    Calls Tryz.prog 147 #[.int .i64 n, .string s, .int .i64 i] w fun e w' => e = .returned (.tuple #[.bool (bitL s.data.toList i), .int .i64 0]) ∧ New w w' := by
  have hlen : s.data.toList.length = s.size := by rw [Array.length_toList]; rfl
  have hl := h.len
  rw [hlen] at hl
  have HOP := hid (fun a W (q : W.cell? ⟨a, 0, none⟩ = some (.string s)) => bopen_one n s a 1 W h hn q (Nat.le_refl _) (by unfold maxLen; omega))
  have hss : s.size ≤ 600 := by omega
  have hi8 : i / 8 < s.size := by omega
  have hd4 : decide (n ≤ i) = false := decide_eq_false (by omega)
  clear hl
  have hd1 : decide ((i : Int) < 0) = false := decide_eq_false (by omega)
  have hd2 : decide ((i : Int) ≥ (n : Int)) = false := decide_eq_false (by omega)
  have hd3 : decide ((n : Int) ≤ (i : Int)) = false := decide_eq_false (by omega)
  obtain ⟨R, hR⟩ : ∃ R, R = bitL s.data.toList i := ⟨_, rfl⟩
  rw [← hR]
  have HR := hid hR
  clear h hR
  go_enter_defers Tryz.func147, Tryz.ntmps147
  go_wp2_with fail
  refine (HOP.out _ _ ((Blk.newAt (by simp)).cellv 0 rfl)).mono ?_
  rintro e w1 ⟨v, rfl, ⟨G, cap, B, cb, rfl, h1, h2, h3, h4, h5, h6, h7⟩, n1⟩
  have N1 : Hid (New w w1) := hid ((((Mod.refl _ w).alloc (.cells #[.int .i64 0] 28)).alloc (.cells #[.string s] 9) : New w _).trans n1)
  have E1 : Hid (Blk w1 w.heap.size #[.int .i64 0] 28) := hid (New.blk n1 ((Blk.new _ _ _).alloc _))
  have HBY := hid h6
  have e0 := E1.out.cellv 0 rfl; have el := E1.out.lt; have ef := E1.out.frz 0
  unfold maxLen at h2
  clear h6 h7 n1
  have HHA := hid (fun W (q : New w1 W) => bhas_any n B cb s.data.toList i W (HBY.out.new q) (by rw [hlen]; exact hi8) (by rw [hlen]; omega))
  rw [hlen] at HHA
  rw [← HR.out] at HHA
  have hv1 : G < w1.heap.size := h3
  go_wp2_with (first | (go_at_call 124; refine (bfail_pass _ _).mono ?_; rintro e w2 ⟨rfl, rfl⟩) | fail)
  refine (HHA.out _ ((Mod.refl _ _).alloc _)).mono ?_
  rintro e w2 ⟨rfl, n2⟩
  have M2 : Hid (New w1 w2) := hid ((((Mod.refl _ w1).alloc (.cells #[.int .i64 n, .slice (some ⟨B, 0, none⟩) s.size cb] 163)) : New w1 _).trans n2)
  have E2 := hid (New.blk M2.out E1.out)
  clear n2 e0 el ef
  have e0 := E2.out.cellv 0 rfl; have el := E2.out.lt; have ef := E2.out.frz 0
  go_wp2
  refine leaves_cons (f := 122) (args := #[.pointer (some ⟨w.heap.size, 0, none⟩)]) (by simp) (by simp [go_sem]) ?_
  refine (bcaught_idle ⟨w.heap.size, 0, none⟩ _).mono ?_
  rintro e u' w3 ⟨rfl, rfl, rfl⟩
  have q1 : (w2.setCell ⟨w.heap.size, 0, none⟩ (.int .i64 0)).cell? ⟨w.heap.size, 0, none⟩ = some (.int .i64 0) := (E2.out.set 0 (.int .i64 0)).cellv 0 rfl
  refine ⟨.tuple #[.bool R, .int .i64 0], by simp [results, Tryz.results147, go_sem, q1], rfl, ?_⟩
  exact Mod.set (N1.out.trans M2.out) _ _ (.inr (Nat.le_refl _))
set_option maxRecDepth 100000 in
set_option maxHeartbeats 2000000 in
theorem bSet_any (n i : Nat) (s : ByteArray) (v : Bool) (w : World) (h : FieldOf n s.data.toList) (hn : n ≤ 4096) (hi : i < n) :
    Calls Tryz.prog 82 #[.int .i64 n, .string s, .int .i64 i, .bool v] w fun e w' => e = .returned (.tuple #[.string ⟨(setL s.data.toList i v).toArray⟩, .int .i64 0]) ∧ New w w' := by
  have hlen : s.data.toList.length = s.size := by rw [Array.length_toList]; rfl
  have hl := h.len
  rw [hlen] at hl
  have HOP := hid (fun a W (q : W.cell? ⟨a, 0, none⟩ = some (.string s)) => bopen_one n s a 1 W h hn q (Nat.le_refl _) (by unfold maxLen; omega))
  have hss : s.size ≤ 600 := by omega
  have hi8 : i / 8 < s.size := by omega
  have hd4 : decide (n ≤ i) = false := decide_eq_false (by omega)
  clear hl
  have hd1 : decide ((i : Int) < 0) = false := decide_eq_false (by omega)
  have hd2 : decide ((i : Int) ≥ (n : Int)) = false := decide_eq_false (by omega)
  have hd3 : decide ((n : Int) ≤ (i : Int)) = false := decide_eq_false (by omega)
  obtain ⟨R, hR⟩ : ∃ R : List UInt8, R = setL s.data.toList i v := ⟨_, rfl⟩
  rw [← hR]
  have HR := hid hR
  have HRL := hid (show s.size = R.length by rw [hR, setL_len, hlen])
  clear h hR
  go_enter_defers Tryz.func82, Tryz.ntmps82
  go_wp2_with fail
  refine (HOP.out _ _ ((Blk.newAt (by simp)).cellv 0 rfl)).mono ?_
  rintro e w1 ⟨v1, rfl, ⟨G, cap, B, cb, rfl, h1, h2, h3, h4, h5, h6, h7⟩, n1⟩
  have N1 : Hid (New w w1) := hid ((((Mod.refl _ w).alloc (.cells #[.int .i64 0] 28)).alloc (.cells #[.string s] 9) : New w _).trans n1)
  have E1 : Hid (Blk w1 w.heap.size #[.int .i64 0] 28) := hid (New.blk n1 ((Blk.new _ _ _).alloc _))
  have HBY := hid h6
  have HB7 : Hid (w.heap.size + 2 ≤ B) := hid (by simpa using h7)
  have e0 := E1.out.cellv 0 rfl; have el := E1.out.lt; have ef := E1.out.frz 0
  unfold maxLen at h2
  clear h6 h7 n1
  have HHA := hid (fun W (q : New w1 W) => bset_any n B cb s.data.toList i v W (HBY.out.new q) (by rw [hlen]; exact hi8) (by rw [hlen]; omega))
  rw [hlen] at HHA
  rw [← HR.out] at HHA
  have hv1 : G < w1.heap.size := h3
  go_wp2_with (first | (go_at_call 124; refine (bfail_pass _ _).mono ?_; rintro e w2 ⟨rfl, rfl⟩) | fail)
  have KB := hid (Blk.new w1 #[.int .i64 n, .slice (some ⟨B, 0, none⟩) s.size cb] 163)
  refine (HHA.out _ ((Mod.refl _ _).alloc _)).mono ?_
  rintro e w2 ⟨rfl, hb2, m2⟩
  have M2 : Hid (Mod (fun k => k = B) w1 w2) := hid ((((Mod.refl _ w1).alloc (.cells #[.int .i64 n, .slice (some ⟨B, 0, none⟩) s.size cb] 163))).trans m2)
  have HB7' := HB7.out
  have hBl : B < w1.heap.size := HBY.out.lt
  have E2 := hid (M2.out.blk E1.out (by omega))
  have K2 := hid (m2.blk KB.out (by omega))
  have HT2 := hid (hb2.text s.size cb HRL.out)
  clear hb2 m2 e0 el ef
  have e0 := E2.out.cellv 0 rfl; have el := E2.out.lt; have ef := E2.out.frz 0
  have k1 := K2.out.cellv 1 rfl; have kl := K2.out.lt
  have ht := HT2.out
  go_wp2
  refine leaves_cons (f := 122) (args := #[.pointer (some ⟨w.heap.size, 0, none⟩)]) (by simp) (by simp [go_sem]) ?_
  refine (bcaught_idle ⟨w.heap.size, 0, none⟩ _).mono ?_
  rintro e u' w3 ⟨rfl, rfl, rfl⟩
  have q1 : (w2.setCell ⟨w.heap.size, 0, none⟩ (.int .i64 0)).cell? ⟨w.heap.size, 0, none⟩ = some (.int .i64 0) := (E2.out.set 0 (.int .i64 0)).cellv 0 rfl
  refine ⟨.tuple #[.string ⟨R.toArray⟩, .int .i64 0], by simp [results, Tryz.results82, go_sem, q1], rfl, ?_⟩
  exact Mod.set (N1.out.trans' M2.out (fun k hk q => by omega)) _ _ (.inr (Nat.le_refl _))
end Go.Proofs.YtnhgichiedninaaGreatDoor

namespace Go.Proofs.YtnhgichiedninaaGreatDoor
set_option linter.unusedSimpArgs false
set_option linter.unusedVariables false
open Go.RowKit

def seedRow (s : SeedV) : Array Value := #[.int .i64 s.frm, .int .i64 s.cnt, .bool s.under, .int .i64 s.fails, .int .i64 s.bad, .int .i64 s.after, .bool s.out]
/-- The client c lies in block B; its list of seeds in SB, the seeds themselves in the blocks ps, its map in MB. -/
structure CliAt (w : World) (B SB cap MB : Nat) (ps : List Nat) (c : CliV) (G : List (Value × Value)) : Prop where
  row : Blk w B #[.slice (some ⟨SB, 0, none⟩) c.seeds.length cap, .int .i64 c.n, .string ⟨c.want.toArray⟩, .int .i64 c.run, .int .i64 c.now, .map (some MB)] 78
  few : 1 ≤ c.seeds.length ∧ c.seeds.length ≤ 20
  room : c.seeds.length ≤ cap ∧ cap ≤ maxLen
  slt : SB < w.heap.size
  len : ps.length = c.seeds.length
  ptr : ∀ (i : Nat) (p : Nat), ps[i]? = some p → w.cell? ⟨SB, i, none⟩ = some (.pointer (some ⟨p, 0, none⟩))
  each : ∀ (i : Nat) (p : Nat) (s : SeedV), ps[i]? = some p → c.seeds[i]? = some s → Blk w p (seedRow s) 82
  gave : MapL w MB (.int .i64) G
  fld : FieldOf c.n c.want
  n1 : c.n ≤ 4096
  nodup : ps.Nodup
  bp : B ∉ ps ∧ SB ∉ ps ∧ MB ∉ ps ∧ B ≠ SB ∧ B ≠ MB ∧ SB ≠ MB
  runs : ∀ s ∈ c.seeds, 0 ≤ s.frm ∧ 0 ≤ s.cnt ∧ s.frm + s.cnt ≤ c.n
  nums : 1 ≤ c.run ∧ c.run ≤ 16 ∧ 0 ≤ c.now ∧ c.now ≤ 1000000000
theorem CliAt.new {w w' : World} {B SB cap MB : Nat} {ps : List Nat} {c : CliV} {G : List (Value × Value)} (h : CliAt w B SB cap MB ps c G) (hn : New w w') : CliAt w' B SB cap MB ps c G :=
  ⟨New.blk hn h.row, h.few, h.room, Nat.lt_of_lt_of_le h.slt hn.size, h.len, fun i p hp => New.cellv hn (h.ptr i p hp), fun i p s hp hs => New.blk hn (h.each i p s hp hs), h.gave.new hn, h.fld, h.n1, h.nodup, h.bp, h.runs, h.nums⟩
theorem CliAt.seed {w : World} {B SB cap MB : Nat} {ps : List Nat} {c : CliV} {G : List (Value × Value)} (h : CliAt w B SB cap MB ps c G) {i : Nat} (hi : i < c.seeds.length) : ∃ p, ps[i]? = some p ∧ w.cell? ⟨SB, i, none⟩ = some (.pointer (some ⟨p, 0, none⟩)) ∧ Blk w p (seedRow c.seeds[i]) 82 := by
  have hp : i < ps.length := by rw [h.len]; exact hi
  exact ⟨ps[i], List.getElem?_eq_getElem hp, h.ptr i _ (List.getElem?_eq_getElem hp), h.each i _ _ (List.getElem?_eq_getElem hp) (List.getElem?_eq_getElem hi)⟩
set_option maxRecDepth 100000 in
set_option maxHeartbeats 1000000 in
theorem chas_any (B SB cap MB : Nat) (ps : List Nat) (c : CliV) (G : List (Value × Value)) (i : Nat) (w : World) (h : CliAt w B SB cap MB ps c G) (hi : i < c.n) :
    Calls Tryz.prog 107 #[.pointer (some ⟨B, 0, none⟩), .int .i64 i] w fun e w' => e = .returned (.bool (bitL c.want i)) ∧ New w w' := by
  have c1 := h.row.cellv 1 rfl; have c2 := h.row.cellv 2 rfl; have cl := h.row.lt
  have HB := hid (fun W => bHas_any c.n i ⟨c.want.toArray⟩ W (by simpa using h.fld) h.n1 hi)
  obtain ⟨N, hN⟩ : ∃ N, N = c.n := ⟨_, rfl⟩
  obtain ⟨S, hS⟩ : ∃ S : ByteArray, S = ⟨c.want.toArray⟩ := ⟨_, rfl⟩
  have hR : bitL S.data.toList i = bitL c.want i := by rw [hS]
  rw [← hN] at c1 HB
  rw [← hS] at c2 HB
  rw [hR] at HB
  obtain ⟨R, hR2⟩ : ∃ R, R = bitL c.want i := ⟨_, rfl⟩
  rw [← hR2] at HB ⊢
  clear h hN hS hR hR2 hi
  go_enter Tryz.func107, Tryz.ntmps107
  go_wp2_with fail
  go_region_held3 (fun w' => w'.cell? ⟨B, 1, none⟩ = some (.int .i64 N) ∧ w'.cell? ⟨B, 2, none⟩ = some (.string S)) ((first | exact ⟨c1, c2⟩ | exact ⟨d1, d2⟩ | go_keep)) ((first | (go_at_call 147; refine (HB.out _).mono ?_; rintro e w1 ⟨rfl, n1⟩; have N1 : Hid (New w w1) := hid (((Mod.refl _ w).drew : New w _).trans n1); have d1 := New.cellv N1.out c1; have d2 := New.cellv N1.out c2) | fail))
  go_wp2
  go_ret
  exact ⟨rfl, N1.out⟩
end Go.Proofs.YtnhgichiedninaaGreatDoor
