/-
  Several texts in one, in their build order. How a client of web seeds lies in memory, and the walks that read it alone: has, flying, at. Conditions: it lies as told.
-/
import Derived.Test.YtnhgichiedninaaGreatDoorM1
import Derived.Test.YtnhgichiedninaaGreatDoorM2
import Derived.Test.YtnhgichiedninaaGreatDoorM4
import Derived.Deep.RegionHeld3
namespace Go.Proofs.YtnhgichiedninaaGreatDoor
set_option linter.unusedSimpArgs false
set_option linter.unusedVariables false
open Go.RowKit

def seedRow (s : SeedV) : Array Value := #[.int .i64 s.frm, .int .i64 s.cnt, .bool s.under, .int .i64 s.fails, .int .i64 s.bad, .int .i64 s.after, .bool s.out]
/-- The client c lies in block B; its list of seeds in SB, the seeds themselves in the blocks ps, its map in MB. -/
structure CliAt (w : World) (B SB cap MB : Nat) (ps : List Nat) (c : CliV) (G : List (Value × Value)) : Prop where
  row : Blk w B #[.slice (some ⟨SB, 0, none⟩) c.seeds.length cap, .int .i64 c.n, .string ⟨c.want.toArray⟩, .int .i64 c.run, .int .i64 c.now, .map (some MB)] 78
  few : 1 ≤ c.seeds.length ∧ c.seeds.length ≤ 20
  room : c.seeds.length ≤ cap ∧ cap ≤ maxLen
  slt : SB < w.heap.size
  len : ps.length = c.seeds.length
  ptr : ∀ (i : Nat) (p : Nat), ps[i]? = some p → w.cell? ⟨SB, i, none⟩ = some (.pointer (some ⟨p, 0, none⟩))
  each : ∀ (i : Nat) (p : Nat) (s : SeedV), ps[i]? = some p → c.seeds[i]? = some s → Blk w p (seedRow s) 82
  gave : MapL w MB (.int .i64) G
  fld : FieldOf c.n c.want
  n1 : c.n ≤ 4096
  nodup : ps.Nodup
  bp : B ∉ ps ∧ SB ∉ ps ∧ MB ∉ ps ∧ B ≠ SB ∧ B ≠ MB ∧ SB ≠ MB
  runs : ∀ s ∈ c.seeds, 0 ≤ s.frm ∧ 0 ≤ s.cnt ∧ s.frm + s.cnt ≤ c.n
  nums : 1 ≤ c.run ∧ c.run ≤ 16 ∧ 0 ≤ c.now ∧ c.now ≤ 1000000000
theorem CliAt.new {w w' : World} {B SB cap MB : Nat} {ps : List Nat} {c : CliV} {G : List (Value × Value)} (h : CliAt w B SB cap MB ps c G) (hn : New w w') : CliAt w' B SB cap MB ps c G :=
  ⟨New.blk hn h.row, h.few, h.room, Nat.lt_of_lt_of_le h.slt hn.size, h.len, fun i p hp => New.cellv hn (h.ptr i p hp), fun i p s hp hs => New.blk hn (h.each i p s hp hs), h.gave.new hn, h.fld, h.n1, h.nodup, h.bp, h.runs, h.nums⟩
theorem CliAt.seed {w : World} {B SB cap MB : Nat} {ps : List Nat} {c : CliV} {G : List (Value × Value)} (h : CliAt w B SB cap MB ps c G) {i : Nat} (hi : i < c.seeds.length) : ∃ p, ps[i]? = some p ∧ w.cell? ⟨SB, i, none⟩ = some (.pointer (some ⟨p, 0, none⟩)) ∧ Blk w p (seedRow c.seeds[i]) 82 := by
  have hp : i < ps.length := by rw [h.len]; exact hi
  exact ⟨ps[i], List.getElem?_eq_getElem hp, h.ptr i _ (List.getElem?_eq_getElem hp), h.each i _ _ (List.getElem?_eq_getElem hp) (List.getElem?_eq_getElem hi)⟩
set_option maxRecDepth 100000 in
set_option maxHeartbeats 1000000 in
theorem chas_any (B SB cap MB : Nat) (ps : List Nat) (c : CliV) (G : List (Value × Value)) (i : Nat) (w : World) (h : CliAt w B SB cap MB ps c G) (hi : i < c.n) :
    Calls Tryz.prog 107 #[.pointer (some ⟨B, 0, none⟩), .int .i64 i] w fun e w' => e = .returned (.bool (bitL c.want i)) ∧ New w w' := by
  have c1 := h.row.cellv 1 rfl; have c2 := h.row.cellv 2 rfl; have cl := h.row.lt
  have HB := hid (fun W => bHas_any c.n i ⟨c.want.toArray⟩ W (by simpa using h.fld) h.n1 hi)
  obtain ⟨N, hN⟩ : ∃ N, N = c.n := ⟨_, rfl⟩
  obtain ⟨S, hS⟩ : ∃ S : ByteArray, S = ⟨c.want.toArray⟩ := ⟨_, rfl⟩
  have hR : bitL S.data.toList i = bitL c.want i := by rw [hS]
  rw [← hN] at c1 HB
  rw [← hS] at c2 HB
  rw [hR] at HB
  obtain ⟨R, hR2⟩ : ∃ R, R = bitL c.want i := ⟨_, rfl⟩
  rw [← hR2] at HB ⊢
  clear h hN hS hR hR2 hi
  go_enter Tryz.func107, Tryz.ntmps107
  go_wp2_with fail
  go_region_held3 (fun w' => w'.cell? ⟨B, 1, none⟩ = some (.int .i64 N) ∧ w'.cell? ⟨B, 2, none⟩ = some (.string S)) ((first | exact ⟨c1, c2⟩ | exact ⟨d1, d2⟩ | go_keep)) ((first | (go_at_call 147; refine (HB.out _).mono ?_; rintro e w1 ⟨rfl, n1⟩; have N1 : Hid (New w w1) := hid (((Mod.refl _ w).drew : New w _).trans n1); have d1 := New.cellv N1.out c1; have d2 := New.cellv N1.out c2) | fail))
  go_wp2
  go_ret
  exact ⟨rfl, N1.out⟩
end Go.Proofs.YtnhgichiedninaaGreatDoor
