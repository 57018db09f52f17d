/-
  Several texts in one, in their build order. A crier in memory: its fields, the map of names to the times at which they were told; look-up, store. No condition but those of the lemmas. The walks of a crier's small functions (package local): asked, at, due, Last. Conditions: the crier lies as told.
-/
import Derived.Test.YtnflhjagmngimaaGreatDoorM3
import Derived.Test.YtnflhjagmngimaaGreatDoorM7
import Derived.Test.YtnflhjagmngimaaGreatDoorM11
namespace Go.Proofs.YtnflhjagmngimaaGreatDoor
set_option linter.unusedSimpArgs false
set_option linter.unusedVariables false
open Go.RowKit Go.MapKept

/-- A text is in a list of texts. -/
def inB (l : List ByteArray) (k : ByteArray) : Bool := l.any fun x => x.data == k.data
theorem ba_eq {a b : ByteArray} (h : a.data = b.data) : a = b := by cases a; cases b; simp at h; rw [h]
theorem inB_iff {l : List ByteArray} {k : ByteArray} : inB l k = true ↔ k ∈ l := by
  unfold inB
  rw [List.any_eq_true]
  constructor
  · rintro ⟨x, hx, e⟩
    rw [← ba_eq (beq_iff_eq.1 e)]
    exact hx
  · intro h
    exact ⟨k, h, by simp⟩
theorem inB_no {l : List ByteArray} {k : ByteArray} : inB l k = false ↔ k ∉ l := by
  rw [← inB_iff, Bool.not_eq_true]
/-- The entries of a map of names to numbers. -/
def entsV (all : List ByteArray) (f : ByteArray → Int) : List (Value × Value) := all.map fun k => (Value.string k, Value.int .i64 (f k))
def upd (f : ByteArray → Int) (k : ByteArray) (v : Int) (x : ByteArray) : Int := if x.data = k.data then v else f x
theorem upd_self (f : ByteArray → Int) (k : ByteArray) (v : Int) : upd f k v k = v := if_pos rfl
theorem upd_other (f : ByteArray → Int) {k x : ByteArray} (v : Int) (h : x ≠ k) : upd f k v x = f x := if_neg (fun q => h (ba_eq q))
theorem key_str (k : ByteArray) : IsKey .string (.string k) := trivial
theorem ents_len (all : List ByteArray) (f : ByteArray → Int) : (entsV all f).length = all.length := List.length_map ..
theorem ents_keys (all : List ByteArray) (f : ByteArray → Int) : (entsV all f).map (·.1) = all.map Value.string := by unfold entsV; rw [List.map_map]; rfl
theorem ents_no {all : List ByteArray} {f : ByteArray → Int} {k : ByteArray} (h : k ∉ all) : ∀ x ∈ entsV all f, x.1 ≠ .string k := by
  intro x hx q
  obtain ⟨y, hy, rfl⟩ := List.mem_map.1 hx
  simp only [Value.string.injEq] at q
  exact h (q ▸ hy)
theorem ents_at {all : List ByteArray} {f : ByteArray → Int} {k : ByteArray} (h : k ∈ all) : ∃ i : Nat, all[i]? = some k ∧ (entsV all f)[i]? = some (Value.string k, Value.int .i64 (f k)) := by
  obtain ⟨i, hi, e⟩ := List.getElem_of_mem h
  refine ⟨i, by rw [List.getElem?_eq_getElem hi, e], ?_⟩
  unfold entsV
  rw [List.getElem?_map, List.getElem?_eq_getElem hi, e]
  rfl
/-- Block b is the map of the names all to the numbers that f tells; of others f tells 0. -/
structure NumsM (w : World) (b : Nat) (all : List ByteArray) (f : ByteArray → Int) : Prop where
  map : MapL w b .string (entsV all f)
  zero : ∀ k, k ∉ all → f k = 0
theorem NumsM.nodup {w : World} {b : Nat} {all : List ByteArray} {f : ByteArray → Int} (h : NumsM w b all f) : all.Nodup := by
  have := h.map.keys.1
  rw [ents_keys] at this
  exact (List.pairwise_map.1 this).imp (fun {a b} q e => q (by rw [e]))
theorem NumsM.mod {T : Nat → Prop} {w w' : World} {b : Nat} {all : List ByteArray} {f : ByteArray → Int} (h : NumsM w b all f) (hm : Mod T w w') (hn : ¬ T b) : NumsM w' b all f := ⟨h.map.mod hm hn, h.zero⟩
theorem NumsM.new {w w' : World} {b : Nat} {all : List ByteArray} {f : ByteArray → Int} (h : NumsM w b all f) (hm : New w w') : NumsM w' b all f := h.mod hm (fun q => q)
theorem NumsM.made (w : World) {b : Nat} (hb : b = w.heap.size) : NumsM (w.alloc (.map #[] 0)) b [] (fun _ => 0) := ⟨MapL.made w .string hb, fun _ _ => rfl⟩
theorem NumsM.look {w : World} {b : Nat} {all : List ByteArray} {f : ByteArray → Int} (h : NumsM w b all f) (k : ByteArray) :
    (Instr.lookup 60 (.map (some b)) (.string k) false).run Tryz.prog w = .ok (.int .i64 (f k)) w := by
  by_cases hk : k ∈ all
  · obtain ⟨i, -, hi⟩ := ents_at (f := f) hk
    exact h.map.look_at (P := Tryz.prog) Tryz.underlying60 Tryz.underlying9 (key_str k) hi false
  · rw [h.zero k hk]
    exact h.map.look_no (P := Tryz.prog) Tryz.underlying60 Tryz.underlying9 (key_str k) (ents_no hk) (z := .int .i64 0) (Tryz.zeroValue3 w) false
theorem NumsM.look2 {w : World} {b : Nat} {all : List ByteArray} {f : ByteArray → Int} (h : NumsM w b all f) (k : ByteArray) :
    (Instr.lookup 60 (.map (some b)) (.string k) true).run Tryz.prog w = .ok (.tuple #[.int .i64 (f k), .bool (inB all k)]) w := by
  by_cases hk : k ∈ all
  · obtain ⟨i, -, hi⟩ := ents_at (f := f) hk
    rw [inB_iff.2 hk]
    exact h.map.look_at (P := Tryz.prog) Tryz.underlying60 Tryz.underlying9 (key_str k) hi true
  · rw [h.zero k hk, inB_no.2 hk]
    exact h.map.look_no (P := Tryz.prog) Tryz.underlying60 Tryz.underlying9 (key_str k) (ents_no hk) (z := .int .i64 0) (Tryz.zeroValue3 w) true
theorem NumsM.len {w : World} {b : Nat} {all : List ByteArray} {f : ByteArray → Int} (h : NumsM w b all f) (ty : TypeId) :
    (Builtin.len_ #[60] ty #[.map (some b)]).run Tryz.prog w = .ok (.int .i64 all.length) w := by
  have := h.map.len (P := Tryz.prog) Tryz.underlying60 ty
  rwa [ents_len] at this
theorem NumsM.put_new {w : World} {b : Nat} {all : List ByteArray} {f : ByteArray → Int} (h : NumsM w b all f) {k : ByteArray} (hk : k ∉ all) (v : Int) :
    ∃ w', (Instr.mapUpdate 60 (.map (some b)) (.string k) (.int .i64 v)).run Tryz.prog w = .ok () w' ∧ NumsM w' b (all ++ [k]) (upd f k v) ∧ Mod (· = b) w w' := by
  obtain ⟨w', h1, h2, h3⟩ := h.map.put_no (P := Tryz.prog) Tryz.underlying60 Tryz.underlying9 (key_str k) (ents_no hk) (.int .i64 v)
  refine ⟨w', h1, ⟨?_, fun x hx => ?_⟩, h3⟩
  · have e1 : entsV all f = entsV all (upd f k v) := by
      unfold entsV
      refine List.map_congr_left (fun x hx => ?_)
      have hxk : x ≠ k := fun q => hk (by rw [← q]; exact hx)
      rw [upd_other f v hxk]
    have e : entsV all f ++ [(Value.string k, Value.int .i64 v)] = entsV (all ++ [k]) (upd f k v) := by
      rw [e1]
      unfold entsV
      rw [List.map_append, List.map_cons, List.map_nil, upd_self]
    rw [← e]
    exact h2
  · have hxk : x ≠ k := fun q => hx (by rw [q]; simp)
    rw [upd_other f v hxk]
    exact h.zero x (fun q => hx (List.mem_append_left _ q))
theorem NumsM.put_there {w : World} {b : Nat} {all : List ByteArray} {f : ByteArray → Int} (h : NumsM w b all f) {k : ByteArray} (hk : k ∈ all) (v : Int) :
    ∃ w', (Instr.mapUpdate 60 (.map (some b)) (.string k) (.int .i64 v)).run Tryz.prog w = .ok () w' ∧ NumsM w' b all (upd f k v) ∧ Mod (· = b) w w' := by
  obtain ⟨i, hi, hi2⟩ := ents_at (f := f) hk
  obtain ⟨w', h1, h2, h3⟩ := h.map.put_at (P := Tryz.prog) Tryz.underlying60 Tryz.underlying9 (key_str k) hi2 (.int .i64 v)
  refine ⟨w', h1, ⟨?_, fun x hx => ?_⟩, h3⟩
  · have e : (entsV all f).set i (Value.string k, Value.int .i64 v) = entsV all (upd f k v) := by
      apply List.ext_getElem?
      intro j
      unfold entsV
      rw [List.getElem?_set, List.length_map, List.getElem?_map, List.getElem?_map]
      have hil := (List.getElem?_eq_some_iff.1 hi).1
      by_cases q : i = j
      · subst q
        rw [if_pos rfl, if_pos hil, hi, Option.map_some, upd_self]
      · rw [if_neg q]
        cases hj : all[j]? with
        | none => rfl
        | some x =>
          simp only [Option.map_some]
          rw [upd_other]
          intro e
          subst e
          obtain ⟨h1, h2⟩ := List.getElem?_eq_some_iff.1 hi
          obtain ⟨h3, h4⟩ := List.getElem?_eq_some_iff.1 hj
          exact q ((List.getElem_inj h.nodup (h₀ := h1) (h₁ := h3)).1 (by rw [h2, h4]))
    rw [← e]
    exact h2
  · have hxk : x ≠ k := fun q => hx (by rw [q]; exact hk)
    rw [upd_other _ _ hxk]
    exact h.zero x hx
/-- What a crier is. -/
structure CrV where
  now : Int
  cookie : ByteArray
  port : Int
  every : Int
  sent : Int
  min : Int
  all : List ByteArray
  last : ByteArray → Int
  ips : List ByteArray
  heard : ByteArray → Int
def crRow (M H : Nat) (c : CrV) : Array Value := #[.int .i64 c.now, .string c.cookie, .int .i64 c.port, .int .i64 c.every, .map (some M), .int .i64 c.sent, .int .i64 c.min, .map (some H)]
/-- What holds of every crier. -/
structure CrOk (c : CrV) : Prop where
  now : 0 ≤ c.now ∧ c.now ≤ 1000000000
  cook : cookieOk c.cookie = true ∧ c.cookie.size = 16
  port : 1 ≤ c.port ∧ c.port ≤ 65535
  every : 1000 ≤ c.every ∧ c.every ≤ 1000000
  sent : -1 ≤ c.sent ∧ c.sent ≤ c.now
  few : c.all.length ≤ 200
  size : ∀ k ∈ c.all, k.size = 20
  last : ∀ k, -1 ≤ c.last k ∧ c.last k ≤ 1000000000
  min : 0 ≤ c.min
/-- A crier lies in block B, its maps in M and H. -/
structure CrAt (w : World) (B M H : Nat) (c : CrV) : Prop where
  row : Blk w B (crRow M H c) 64
  names : NumsM w M c.all c.last
  hears : NumsM w H c.ips c.heard
  apart : M ≠ B ∧ H ≠ B ∧ H ≠ M
theorem CrAt.mod {T : Nat → Prop} {w w' : World} {B M H : Nat} {c : CrV} (h : CrAt w B M H c) (hm : Mod T w w') (h1 : ¬ T B) (h2 : ¬ T M) (h3 : ¬ T H) : CrAt w' B M H c :=
  ⟨Mod.blk hm h.row h1, h.names.mod hm h2, h.hears.mod hm h3, h.apart⟩
theorem CrAt.new {w w' : World} {B M H : Nat} {c : CrV} (h : CrAt w B M H c) (hm : New w w') : CrAt w' B M H c := h.mod hm (fun q => q) (fun q => q) (fun q => q)
theorem CrAt.lt {w : World} {B M H : Nat} {c : CrV} (h : CrAt w B M H c) : B < w.heap.size ∧ M < w.heap.size ∧ H < w.heap.size := ⟨h.row.lt, h.names.map.lt, h.hears.map.lt⟩
end Go.Proofs.YtnflhjagmngimaaGreatDoor

namespace Go.Proofs.YtnflhjagmngimaaGreatDoor
set_option linter.unusedSimpArgs false
set_option linter.unusedVariables false
open Go.RowKit Go.Shelf

def askE (k : ByteArray) : Int := if k.size = 20 then 0 else 1
def CrV.atE (c : CrV) (t : Int) : Int := if t < c.now ∨ 1000000000 < t then 7 else 0
set_option maxHeartbeats 1000000 in
theorem asked_any (B : Nat) (k : ByteArray) (w : World) (hs : k.size ≤ maxLen) : Calls Tryz.prog 35 #[.pointer (some ⟨B, 0, none⟩), .string k] w fun e w' => e = .returned (.int .i64 (askE k)) ∧ w = w' := by
  unfold maxLen at hs
  unfold askE
  by_cases h : k.size = 20
  · have e1 : ((k.size : Int) == 20) = true := by rw [beq_iff_eq]; omega
    have e2 : ((k.size : Int) != 20) = false := by rw [bne, e1]; rfl
    rw [if_pos h]
    clear h
    go_enter Tryz.func35, Tryz.ntmps35
    go_wp2
    go_ret
    exact ⟨rfl, rfl⟩
  · have e1 : ((k.size : Int) == 20) = false := by rw [beq_eq_false_iff_ne]; omega
    have e2 : ((k.size : Int) != 20) = true := by rw [bne, e1]; rfl
    rw [if_neg h]
    clear h
    go_enter Tryz.func35, Tryz.ntmps35
    go_wp2
    go_ret
    exact ⟨rfl, rfl⟩
set_option maxHeartbeats 1000000 in
theorem crAt_any (B M H : Nat) (c : CrV) (t : Int) (w : World) (h : CrAt w B M H c) : Calls Tryz.prog 36 #[.pointer (some ⟨B, 0, none⟩), .int .i64 t] w fun e w' => e = .returned (.int .i64 (c.atE t)) ∧ w = w' := by
  have c0 : w.cell? ⟨B, 0, none⟩ = some (.int .i64 c.now) := h.row.cellv 0 rfl
  have cl := h.row.lt
  obtain ⟨N, hN⟩ : ∃ N, N = c.now := ⟨_, rfl⟩
  unfold CrV.atE
  rw [← hN] at c0 ⊢
  clear h hN
  by_cases g : t < N
  · rw [if_pos (.inl g)]
    go_enter Tryz.func36, Tryz.ntmps36
    go_wp2
    go_ret
    exact ⟨rfl, rfl⟩
  · by_cases g2 : 1000000000 < t
    · rw [if_pos (.inr g2)]
      go_enter Tryz.func36, Tryz.ntmps36
      go_wp2
      go_ret
      exact ⟨rfl, rfl⟩
    · rw [if_neg (by omega)]
      go_enter Tryz.func36, Tryz.ntmps36
      go_wp2
      go_ret
      exact ⟨rfl, rfl⟩
set_option maxRecDepth 100000 in
set_option maxHeartbeats 2000000 in
theorem due_any (B M H : Nat) (c : CrV) (k : ByteArray) (w : World) (h : CrAt w B M H c) (ho : CrOk c) : Calls Tryz.prog 38 #[.pointer (some ⟨B, 0, none⟩), .string k] w fun e w' => e = .returned (.int .i64 (dueT c.every (c.last k))) ∧ New w w' := by
  have c3 : w.cell? ⟨B, 3, none⟩ = some (.int .i64 c.every) := h.row.cellv 3 rfl
  have c4 : w.cell? ⟨B, 4, none⟩ = some (.map (some M)) := h.row.cellv 4 rfl
  have cl := h.row.lt
  have lk := h.names.look k
  have lkd := (h.names.new (Mod.drew (Mod.refl _ _))).look k
  obtain ⟨L, hL⟩ : ∃ L, L = c.last k := ⟨_, rfl⟩
  obtain ⟨E, hE⟩ : ∃ E, E = c.every := ⟨_, rfl⟩
  have hl := ho.last k; have he := ho.every
  rw [← hL] at lk lkd hl ⊢
  rw [← hE] at c3 he ⊢
  clear h ho hL hE
  have hwE : IntKind.i64.wrap (L + E) = L + E := by rw [IntKind.wrap_i64]; omega
  unfold dueT
  by_cases g : L < 0
  · rw [if_pos g]
    go_enter Tryz.func38, Tryz.ntmps38
    go_wp2
    go_ret
    exact ⟨rfl, Mod.refl _ _⟩
  · rw [if_neg g]
    go_enter Tryz.func38, Tryz.ntmps38
    go_wp2_with fail
    refine wp_region_held_drew (S := (fun w' => w'.cell? ⟨B, 3, none⟩ = some (.int .i64 E) ∧ w'.cell? ⟨B, 4, none⟩ = some (.map (some M)) ∧ (Instr.lookup 60 (.map (some M)) (.string k) false).run Tryz.prog w' = .ok (.int .i64 L) w')) (by kernel_rfl) ⟨c3, c4, lkd⟩ (fun hHeld => ?_)
    refine wpAnyH_take (i := 0) (v := ?_) (by simp only [List.getElem?_toArray, List.getElem?_cons_succ, List.getElem?_cons_zero]; rfl) (by kernel_rfl) (by kernel_rfl) (by kernel_rfl) (by intro _ _ _ h; exact h) (Or.inl ⟨by rfl, ?_⟩) (by assumption) ?_
    rotate_left
    · intro w hSw
      (try dsimp only at hSw)
      first | (go_simp; done) | (go_simp; with_reducible rfl) | with_reducible rfl
    simp only [Act.put, List.setIfInBounds_toArray, List.set_cons_zero, List.set_cons_succ]
    refine wpAnyH_take (i := 1) (v := ?_) (by simp only [List.getElem?_toArray, List.getElem?_cons_succ, List.getElem?_cons_zero]; rfl) (by kernel_rfl) (by kernel_rfl) (by kernel_rfl) (by intro _ _ _ h; exact h) (Or.inl ⟨by rfl, ?_⟩) (by assumption) ?_
    rotate_left
    · intro w hSw
      (try dsimp only at hSw)
      first | (go_simp; done) | (go_simp; with_reducible rfl) | with_reducible rfl
    simp only [Act.put, List.setIfInBounds_toArray, List.set_cons_zero, List.set_cons_succ]
    refine wpAnyH_take (i := 2) (v := ?_) (by simp only [List.getElem?_toArray, List.getElem?_cons_succ, List.getElem?_cons_zero]; rfl) (by kernel_rfl) (by kernel_rfl) (by kernel_rfl) (by intro _ _ _ h; exact h) (Or.inl ⟨by rfl, ?_⟩) (by assumption) ?_
    rotate_left
    · intro w hSw
      (try dsimp only at hSw)
      first | (go_simp; done) | (go_simp; with_reducible rfl) | with_reducible rfl
    simp only [Act.put, List.setIfInBounds_toArray, List.set_cons_zero, List.set_cons_succ]
    refine wpAnyH_take (i := 3) (v := ?_) (by simp only [List.getElem?_toArray, List.getElem?_cons_succ, List.getElem?_cons_zero]; rfl) (by kernel_rfl) (by kernel_rfl) (by kernel_rfl) (by intro _ _ _ h; exact h) (Or.inl ⟨by rfl, ?_⟩) (by assumption) ?_
    rotate_left
    · intro w hSw
      (try dsimp only at hSw)
      first | (go_simp; done) | (go_simp; with_reducible rfl) | with_reducible rfl
    simp only [Act.put, List.setIfInBounds_toArray, List.set_cons_zero, List.set_cons_succ]
    refine wpAnyH_take (i := 4) (v := ?_) (by simp only [List.getElem?_toArray, List.getElem?_cons_succ, List.getElem?_cons_zero]; rfl) (by kernel_rfl) (by kernel_rfl) (by kernel_rfl) (by intro _ _ _ h; exact h) (Or.inl ⟨by rfl, ?_⟩) (by assumption) ?_
    rotate_left
    · intro w hSw
      (try dsimp only at hSw)
      first | (go_simp; done) | (go_simp; with_reducible rfl) | with_reducible rfl
    simp only [Act.put, List.setIfInBounds_toArray, List.set_cons_zero, List.set_cons_succ]
    refine wpAnyH_take (i := 5) (v := ?_) (by simp only [List.getElem?_toArray, List.getElem?_cons_succ, List.getElem?_cons_zero]; rfl) (by kernel_rfl) (by kernel_rfl) (by kernel_rfl) (by intro _ _ _ h; exact h) (Or.inl ⟨by rfl, ?_⟩) (by assumption) ?_
    rotate_left
    · intro w hSw
      (try dsimp only at hSw)
      first | (go_simp; done) | (go_simp; with_reducible rfl) | with_reducible rfl
    simp only [Act.put, List.setIfInBounds_toArray, List.set_cons_zero, List.set_cons_succ]
    refine wpAnyH_take (i := 6) (v := ?_) (by simp only [List.getElem?_toArray, List.getElem?_cons_succ, List.getElem?_cons_zero]; rfl) (by kernel_rfl) (by kernel_rfl) (by kernel_rfl) (by intro _ _ _ h; exact h) (Or.inl ⟨by rfl, ?_⟩) (by assumption) ?_
    rotate_left
    · intro w hSw
      (try dsimp only at hSw)
      first | (go_simp; done) | (go_simp; with_reducible rfl) | with_reducible rfl
    simp only [Act.put, List.setIfInBounds_toArray, List.set_cons_zero, List.set_cons_succ]
    refine wpAnyH_take (i := 7) (v := ?_) (by simp only [List.getElem?_toArray, List.getElem?_cons_succ, List.getElem?_cons_zero]; rfl) (by kernel_rfl) (by kernel_rfl) (by kernel_rfl) (by intro _ _ _ h; exact h) (Or.inl ⟨by rfl, ?_⟩) (by assumption) ?_
    rotate_left
    · intro w hSw
      (try dsimp only at hSw)
      first | (go_simp; done) | (go_simp; with_reducible rfl) | with_reducible rfl
    simp only [Act.put, List.setIfInBounds_toArray, List.set_cons_zero, List.set_cons_succ]
    refine wpAnyH_take (i := 8) (v := ?_) (by simp only [List.getElem?_toArray, List.getElem?_cons_succ, List.getElem?_cons_zero]; rfl) (by kernel_rfl) (by kernel_rfl) (by kernel_rfl) (by intro _ _ _ h; exact h) (Or.inl ⟨by rfl, ?_⟩) (by assumption) ?_
    rotate_left
    · intro w hSw
      (try dsimp only at hSw)
      first | (go_simp; done) | (go_simp; with_reducible rfl) | with_reducible rfl
    simp only [Act.put, List.setIfInBounds_toArray, List.set_cons_zero, List.set_cons_succ]
    refine wpAnyH_take (i := 9) (v := ?_) (by simp only [List.getElem?_toArray, List.getElem?_cons_succ, List.getElem?_cons_zero]; rfl) (by kernel_rfl) (by kernel_rfl) (by kernel_rfl) (by intro _ _ _ h; exact h) (Or.inl ⟨by rfl, ?_⟩) (by assumption) ?_
    rotate_left
    · intro w hSw
      (try dsimp only at hSw)
      first | (go_simp; done) | (go_simp; with_reducible rfl) | with_reducible rfl
    simp only [Act.put, List.setIfInBounds_toArray, List.set_cons_zero, List.set_cons_succ]
    refine wpAnyH_take (i := 10) (v := ?_) (by simp only [List.getElem?_toArray, List.getElem?_cons_succ, List.getElem?_cons_zero]; rfl) (by kernel_rfl) (by kernel_rfl) (by kernel_rfl) (by intro _ _ _ h; exact h) (Or.inl ⟨by rfl, ?_⟩) (by assumption) ?_
    rotate_left
    · intro w hSw
      (try dsimp only at hSw)
      first | (go_simp; done) | (go_simp; with_reducible rfl) | with_reducible rfl
    simp only [Act.put, List.setIfInBounds_toArray, List.set_cons_zero, List.set_cons_succ]
    refine wpAnyH_take (i := 11) (v := ?_) (by simp only [List.getElem?_toArray, List.getElem?_cons_succ, List.getElem?_cons_zero]; rfl) (by kernel_rfl) (by kernel_rfl) (by kernel_rfl) (by intro _ _ _ h; exact h) (Or.inl ⟨by rfl, ?_⟩) (by assumption) ?_
    rotate_left
    · intro w hSw
      (try dsimp only at hSw)
      first | (go_simp; done) | (go_simp; with_reducible rfl) | with_reducible rfl
    simp only [Act.put, List.setIfInBounds_toArray, List.set_cons_zero, List.set_cons_succ]
    refine wpAnyH_done (by kernel_rfl) ?_ _
    go_wp2
    go_ret
    exact ⟨by simp [hwE], Mod.drew (Mod.refl _ _)⟩
def CrV.lastE (c : CrV) (k : ByteArray) : Int := if k.size = 20 then (if inB c.all k ∧ 0 ≤ c.last k then 0 else 8) else 1
def CrV.lastR (c : CrV) (k : ByteArray) : Int := if c.lastE k = 0 then c.last k else 0
set_option maxRecDepth 100000 in
set_option maxHeartbeats 2000000 in
theorem cLast_any (B M H : Nat) (c : CrV) (k : ByteArray) (w : World) (h : CrAt w B M H c) (hs : k.size ≤ maxLen) : Calls Tryz.prog 12 #[.pointer (some ⟨B, 0, none⟩), .string k] w fun e w' => e = .returned (.tuple #[.int .i64 (c.lastR k), .int .i64 (c.lastE k)]) ∧ New w w' := by
  have c4 : w.cell? ⟨B, 4, none⟩ = some (.map (some M)) := h.row.cellv 4 rfl
  have cl := h.row.lt
  have lk := h.names.look2 k
  have HA := hid (asked_any B k w hs)
  obtain ⟨L, hL⟩ : ∃ L, L = c.last k := ⟨_, rfl⟩
  unfold CrV.lastR CrV.lastE
  rw [← hL] at lk ⊢
  clear h hL
  unfold askE at HA
  by_cases g : k.size = 20
  · rw [if_pos g] at HA ⊢
    clear g
    cases hb : inB c.all k with
    | false =>
      rw [hb] at lk
      simp only [Bool.false_eq_true, false_and, if_false]
      clear hb
      go_enter Tryz.func12, Tryz.ntmps12
      go_wp2_with fail
      refine HA.out.mono ?_
      rintro e w' ⟨rfl, rfl⟩
      go_wp2
      go_ret2
      exact ⟨rfl, Mod.refl _ _⟩
    | true =>
      rw [hb] at lk
      clear hb
      by_cases g2 : L < 0
      · have e0 : ¬ (true = true ∧ 0 ≤ L) := fun q => absurd q.2 (by omega)
        rw [if_neg e0]
        rw [if_neg (show ¬ (8 : Int) = 0 by decide)]
        clear e0
        have e9 : decide (L < 0) = true := decide_eq_true g2
        go_enter Tryz.func12, Tryz.ntmps12
        go_wp2_with fail
        refine HA.out.mono ?_
        rintro e w' ⟨rfl, rfl⟩
        go_wp2
        go_ret2
        exact ⟨rfl, Mod.refl _ _⟩
      · have e0 : true = true ∧ 0 ≤ L := ⟨rfl, by omega⟩
        simp only [if_pos e0, if_true]
        clear e0
        have e9 : decide (L < 0) = false := decide_eq_false g2
        go_enter Tryz.func12, Tryz.ntmps12
        go_wp2_with fail
        refine HA.out.mono ?_
        rintro e w' ⟨rfl, rfl⟩
        go_wp2
        all_goals
          go_ret2
          exact ⟨rfl, Mod.refl _ _⟩
  · rw [if_neg g] at HA ⊢
    rw [if_neg (by decide)]
    clear g
    go_enter Tryz.func12, Tryz.ntmps12
    go_wp2_with fail
    refine HA.out.mono ?_
    rintro e w' ⟨rfl, rfl⟩
    go_wp2
    go_ret2
    exact ⟨rfl, Mod.refl _ _⟩
end Go.Proofs.YtnflhjagmngimaaGreatDoor
