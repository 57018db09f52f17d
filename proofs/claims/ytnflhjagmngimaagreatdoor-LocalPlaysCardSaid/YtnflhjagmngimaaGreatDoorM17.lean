/-
  Several texts in one, in their build order. The walk of package local's New. No condition but that the seed is a text. The walk of a crier's Add (package local). Conditions: the crier lies as told. A crier's turns: what Tell tells at a time that When told, and a moment before it; what holds behind it. Plain Lean over what Tell's walk shows. No condition but those of the lemmas.
-/
import Derived.Test.YtnflhjagmngimaaGreatDoorM8
import Derived.Test.YtnflhjagmngimaaGreatDoorM16
import Derived.Test.YtnflhjagmngimaaGreatDoorM9
import Derived.Test.YtnflhjagmngimaaGreatDoorM15
namespace Go.Proofs.YtnflhjagmngimaaGreatDoor
set_option linter.unusedSimpArgs false
set_option linter.unusedVariables false
open Go.RowKit Go.Shelf

/-- The cookie that is made of a seed. -/
def cookV (seed : ByteArray) : ByteArray := ⟨(hexOf ((sumL seed.data.toList).take 8)).toArray⟩
theorem cookV_ok (seed : ByteArray) : cookieOk (cookV seed) = true ∧ (cookV seed).size = 16 := by
  have hl : (hexOf ((sumL seed.data.toList).take 8)).length = 16 := by rw [hex_len, List.length_take, sum_len]; rfl
  have hs : (cookV seed).size = 16 := by
    show (hexOf ((sumL seed.data.toList).take 8)).toArray.size = 16
    simpa using hl
  refine ⟨?_, hs⟩
  unfold cookieOk
  rw [hs]
  have : (cookV seed).data.toList.all (fun b => decide (33 ≤ b.toNat) && decide (b.toNat ≤ 126)) = true := by
    rw [List.all_eq_true]
    intro b hb
    have hb2 : b ∈ hexOf ((sumL seed.data.toList).take 8) := by simpa [cookV] using hb
    have := hex_bytes hb2
    rw [decide_eq_true (show 33 ≤ b.toNat by omega), decide_eq_true (show b.toNat ≤ 126 by omega)]
    rfl
  rw [this]
  decide
def newEr (seed : ByteArray) (port every : Int) : Int := if 100 < seed.size then 1 else if port < 1 ∨ 65535 < port ∨ every < 1000 ∨ 1000000 < every then 7 else 0
/-- The crier that is made. -/
def newCr (seed : ByteArray) (port every : Int) : CrV := ⟨0, cookV seed, port, every, -1, 0, [], fun _ => 0, [], fun _ => 0⟩
theorem newCr_ok {seed : ByteArray} {port every : Int} (h : newEr seed port every = 0) : CrOk (newCr seed port every) := by
  unfold newEr at h
  split at h
  · simp at h
  · split at h
    · simp at h
    · rename_i h1 h2
      have h3 : 1 ≤ port ∧ port ≤ 65535 ∧ 1000 ≤ every ∧ every ≤ 1000000 := by omega
      exact ⟨⟨Int.le_refl _, show (0 : Int) ≤ 1000000000 by decide⟩, cookV_ok seed, ⟨h3.1, h3.2.1⟩, ⟨h3.2.2.1, h3.2.2.2⟩, ⟨show (-1 : Int) ≤ -1 by decide, show (-1 : Int) ≤ 0 by decide⟩, Nat.zero_le _, (fun k hk => by cases hk), (fun k => ⟨show (-1 : Int) ≤ 0 by decide, show (0 : Int) ≤ 1000000000 by decide⟩), show (0 : Int) ≤ 0 by decide⟩
theorem ext8 (l : List UInt8) : ((mkB l).extract 0 8).data.toList = l.take 8 := by
  rw [ByteArray.data_extract]
  simp [mkB]
set_option maxRecDepth 100000 in
set_option maxHeartbeats 4000000 in
theorem crNew_no (seed : ByteArray) (port every : Int) (w : World) (hs : seed.size ≤ maxLen) (h : newEr seed port every ≠ 0) :
    Calls Tryz.prog 7 #[.string seed, .int .i64 port, .int .i64 every] w fun e w' => e = .returned (.tuple #[.pointer none, .int .i64 (newEr seed port every)]) ∧ w' = w := by
  unfold maxLen at hs
  unfold newEr at h ⊢
  by_cases g : 100 < seed.size
  · have e1 : decide ((100 : Int) < (seed.size : Int)) = true := decide_eq_true (by omega)
    have e2 : (100 : Int) < (seed.size : Int) := by omega
    rw [if_pos g]
    clear h g
    go_enter Tryz.func7, Tryz.ntmps7
    go_wp2_with fail
    go_ret2
    exact ⟨rfl, rfl⟩
  · have e2 : ¬ (100 : Int) < (seed.size : Int) := by omega
    rw [if_neg g] at h ⊢
    by_cases g2 : port < 1 ∨ 65535 < port ∨ every < 1000 ∨ 1000000 < every
    · rw [if_pos g2]
      clear h g
      by_cases q1 : port < 1
      · clear g2
        go_enter Tryz.func7, Tryz.ntmps7
        go_wp2_with fail
        go_ret2
        exact ⟨rfl, rfl⟩
      · by_cases q2 : 65535 < port
        · clear g2
          go_enter Tryz.func7, Tryz.ntmps7
          go_wp2_with fail
          go_ret2
          exact ⟨rfl, rfl⟩
        · by_cases q3 : every < 1000
          · clear g2
            go_enter Tryz.func7, Tryz.ntmps7
            go_wp2_with fail
            go_ret2
            exact ⟨rfl, rfl⟩
          · have q4 : 1000000 < every := by omega
            clear g2
            go_enter Tryz.func7, Tryz.ntmps7
            go_wp2_with fail
            go_ret2
            exact ⟨rfl, rfl⟩
    · rw [if_neg g2] at h
      exact absurd rfl h
set_option maxRecDepth 100000 in
set_option maxHeartbeats 4000000 in
theorem crNew_ok (seed : ByteArray) (port every : Int) (w : World) (h : newEr seed port every = 0) :
    Calls Tryz.prog 7 #[.string seed, .int .i64 port, .int .i64 every] w fun e w' => ∃ B M H, e = .returned (.tuple #[.pointer (some ⟨B, 0, none⟩), .int .i64 0]) ∧ CrAt w' B M H (newCr seed port every) ∧ New w w' ∧ w.heap.size ≤ B ∧ w.heap.size ≤ M ∧ w.heap.size ≤ H := by
  have hh : seed.size ≤ 100 ∧ 1 ≤ port ∧ port ≤ 65535 ∧ 1000 ≤ every ∧ every ≤ 1000000 := by
    unfold newEr at h
    split at h
    · simp at h
    · split at h
      · simp at h
      · omega
  obtain ⟨g1, g2, g3, g4, g5⟩ := hh
  have HS := hid (sum_any seed w (by omega))
  have hmm := @run_makeMap Tryz.prog
  have e1 : ¬ (100 : Int) < (seed.size : Int) := by omega
  obtain ⟨S, hS⟩ : ∃ S, S = mkB (sumL seed.data.toList) := ⟨_, rfl⟩
  have hsz : S.size = 32 := by rw [hS, mkB_size, sum_len]
  have HX := hid (fun w => hex_any (S.extract 0 8) w (by rw [ByteArray.size_extract]; omega))
  have HCK := hid (show (⟨(hexOf (S.extract 0 8).data.toList).toArray⟩ : ByteArray) = cookV seed by rw [hS, ext8]; rfl)
  rw [HCK.out] at HX
  rw [← hS] at HS
  clear h hS
  go_enter Tryz.func7, Tryz.ntmps7
  go_wp2_with fail
  refine HS.out.mono ?_
  rintro e w1 ⟨rfl, n1⟩
  have N1 := hid n1
  clear n1
  go_wp2_with fail
  refine (HX.out _).mono ?_
  rintro e w2 ⟨rfl, n2⟩
  have N2 := hid (N1.out.trans n2)
  clear n2
  go_wp2_with fail
  go_ret2
  have hm := fun (W : World) => NumsM.made W (b := W.heap.size) rfl
  have hz := N2.out.size
  refine ⟨w2.heap.size + 2, w2.heap.size, w2.heap.size + 1, rfl, ⟨?_, ?_, ?_, ⟨by omega, by omega, by omega⟩⟩, ?_, by omega, by omega, by omega⟩
  · exact Blk.newAt (by simp)
  · exact ((hm w2).new ((Mod.refl _ _).alloc _)).new ((Mod.refl _ _).alloc _)
  · have h1 := hm (w2.alloc (.map #[] 0))
    simp only [World.size_alloc] at h1
    exact h1.new ((Mod.refl _ _).alloc _)
  · exact ((N2.out.alloc _).alloc _).alloc _
end Go.Proofs.YtnflhjagmngimaaGreatDoor

namespace Go.Proofs.YtnflhjagmngimaaGreatDoor
set_option linter.unusedSimpArgs false
set_option linter.unusedVariables false
open Go.RowKit Go.Shelf

/-- What Add answers. -/
def CrV.addE (c : CrV) (k : ByteArray) (priv : Bool) : Int := if k.size = 20 then (if priv then 20 else if inB c.all k then 6 else if c.all.length = 200 then 4 else 0) else 1
def CrV.addC (c : CrV) (k : ByteArray) : CrV := { c with all := c.all ++ [k], last := upd c.last k (-1) }
theorem CrV.add_yes {c : CrV} {k : ByteArray} {priv : Bool} (h : c.addE k priv = 0) : k.size = 20 ∧ priv = false ∧ inB c.all k = false ∧ c.all.length ≠ 200 := by
  unfold CrV.addE at h
  split at h
  · split at h
    · simp at h
    · split at h
      · simp at h
      · split at h
        · simp at h
        · rename_i h1 h2 h3 h4
          exact ⟨h1, by simpa using h2, by simpa using h3, h4⟩
  · simp at h
theorem CrOk.add {c : CrV} {k : ByteArray} {priv : Bool} (ho : CrOk c) (h : c.addE k priv = 0) : CrOk (c.addC k) := by
  obtain ⟨h1, -, -, h4⟩ := CrV.add_yes h
  have hf := ho.few
  refine ⟨ho.now, ho.cook, ho.port, ho.every, ho.sent, ?_, fun x hx => ?_, fun x => ?_, ho.min⟩
  · show (c.all ++ [k]).length ≤ 200
    rw [List.length_append, List.length_singleton]
    omega
  · rcases List.mem_append.1 hx with hx | hx
    · exact ho.size x hx
    · rw [List.mem_singleton.1 hx]; exact h1
  · show -1 ≤ upd c.last k (-1) x ∧ upd c.last k (-1) x ≤ 1000000000
    unfold upd
    split
    · omega
    · exact ho.last x
set_option maxRecDepth 100000 in
set_option maxHeartbeats 2000000 in
theorem cAdd_no (B M H : Nat) (c : CrV) (k : ByteArray) (priv : Bool) (w : World) (h : CrAt w B M H c) (hs : k.size ≤ maxLen) (hno : c.addE k priv ≠ 0) :
    Calls Tryz.prog 8 #[.pointer (some ⟨B, 0, none⟩), .string k, .bool priv] w fun e w' => e = .returned (.int .i64 (c.addE k priv)) ∧ New w w' := by
  have c4 : w.cell? ⟨B, 4, none⟩ = some (.map (some M)) := h.row.cellv 4 rfl
  have cl := h.row.lt
  have lk := h.names.look2 k
  have hlen := fun ty => h.names.len ty
  have HA := hid (asked_any B k w hs)
  obtain ⟨L, hL⟩ : ∃ L, L = c.last k := ⟨_, rfl⟩
  obtain ⟨n, hn⟩ : ∃ n, n = c.all.length := ⟨_, rfl⟩
  unfold CrV.addE at hno ⊢
  rw [← hL] at lk
  rw [← hn] at hlen hno ⊢
  unfold askE at HA
  by_cases g : k.size = 20
  · rw [if_pos g] at HA hno ⊢
    clear g
    cases priv with
    | true =>
      simp only [if_true]
      clear h hL hno hn
      go_enter Tryz.func8, Tryz.ntmps8
      go_wp2_with fail
      refine HA.out.mono ?_
      rintro e w' ⟨rfl, rfl⟩
      go_wp2
      go_ret
      exact ⟨rfl, Mod.refl _ _⟩
    | false =>
      simp only [Bool.false_eq_true, if_false] at hno ⊢
      cases hb : inB c.all k with
      | true =>
        rw [hb] at lk
        simp only [if_true]
        clear h hL hno hn hb
        go_enter Tryz.func8, Tryz.ntmps8
        go_wp2_with fail
        refine HA.out.mono ?_
        rintro e w' ⟨rfl, rfl⟩
        go_wp2
        go_ret
        exact ⟨rfl, Mod.refl _ _⟩
      | false =>
        rw [hb] at lk hno
        simp only [Bool.false_eq_true, if_false] at hno ⊢
        by_cases g2 : n = 200
        · rw [if_pos g2]
          have e2 : ((n : Int) == 200) = true := by rw [beq_iff_eq]; omega
          clear h hL hno hn hb g2
          go_enter Tryz.func8, Tryz.ntmps8
          go_wp2_with fail
          refine HA.out.mono ?_
          rintro e w' ⟨rfl, rfl⟩
          go_wp2
          go_ret
          exact ⟨rfl, Mod.refl _ _⟩
        · rw [if_neg g2] at hno
          exact absurd rfl hno
  · rw [if_neg g] at HA ⊢
    clear g h hL hno hn
    go_enter Tryz.func8, Tryz.ntmps8
    go_wp2_with fail
    refine HA.out.mono ?_
    rintro e w' ⟨rfl, rfl⟩
    go_wp2
    go_ret
    exact ⟨rfl, Mod.refl _ _⟩
set_option maxRecDepth 100000 in
set_option maxHeartbeats 2000000 in
theorem cAdd_yes (B M H : Nat) (c : CrV) (k : ByteArray) (priv : Bool) (w : World) (h : CrAt w B M H c) (hs : k.size ≤ maxLen) (hok : c.addE k priv = 0) :
    Calls Tryz.prog 8 #[.pointer (some ⟨B, 0, none⟩), .string k, .bool priv] w fun e w' => e = .returned (.int .i64 0) ∧ CrAt w' B M H (c.addC k) ∧ Mod (· = M) w w' := by
  obtain ⟨g1, rfl, g3, g4⟩ := CrV.add_yes hok
  have c4 : w.cell? ⟨B, 4, none⟩ = some (.map (some M)) := h.row.cellv 4 rfl
  have cl := h.row.lt
  have lk := h.names.look2 k
  have hlen := fun ty => h.names.len ty
  have HA := hid (asked_any B k w hs)
  unfold askE at HA
  rw [if_pos g1] at HA
  rw [g3] at lk
  obtain ⟨w9, hup, hN, hM⟩ := h.names.put_new (inB_no.1 g3) (-1)
  have HC : Hid (CrAt w9 B M H (c.addC k)) := hid ⟨Mod.blk hM h.row (fun q => h.apart.1 q.symm), hN, h.hears.mod hM h.apart.2.2, h.apart⟩
  have HM := hid hM
  obtain ⟨L, hL⟩ : ∃ L, L = c.last k := ⟨_, rfl⟩
  obtain ⟨n, hn⟩ : ∃ n, n = c.all.length := ⟨_, rfl⟩
  rw [← hL] at lk
  rw [← hn] at hlen g4
  have e2 : ((n : Int) == 200) = false := by rw [beq_eq_false_iff_ne]; omega
  clear h hL hn hok g1 g3 g4 hN hM
  go_enter Tryz.func8, Tryz.ntmps8
  go_wp2_with fail
  refine HA.out.mono ?_
  rintro e w' ⟨rfl, rfl⟩
  go_wp2
  go_ret
  exact ⟨rfl, HC.out, HM.out⟩
end Go.Proofs.YtnflhjagmngimaaGreatDoor

namespace Go.Proofs.YtnflhjagmngimaaGreatDoor
set_option linter.unusedSimpArgs false
set_option linter.unusedVariables false
open Go.RowKit

theorem fold_upd (t : Int) (x : ByteArray) : ∀ (N : List ByteArray) (f : ByteArray → Int), (x ∈ N → (N.foldl (fun f k => upd f k t) f) x = t) ∧ (x ∉ N → (N.foldl (fun f k => upd f k t) f) x = f x)
  | [], f => ⟨(fun h => by cases h), (fun _ => rfl)⟩
  | k :: N, f => by
    obtain ⟨h1, h2⟩ := fold_upd t x N (upd f k t)
    rw [List.foldl_cons]
    constructor
    · intro h
      by_cases hN : x ∈ N
      · exact h1 hN
      · rw [h2 hN]
        rcases List.mem_cons.1 h with rfl | h
        · exact upd_self f x t
        · exact absurd h hN
    · intro h
      have hk : x ≠ k := fun q => h (by rw [q]; exact List.mem_cons_self)
      have hN : x ∉ N := fun q => h (List.mem_cons_of_mem _ q)
      rw [h2 hN, upd_other f t hk]
theorem CrOk.tell {c : CrV} (ho : CrOk c) {t : Int} (h1 : c.now ≤ t) (h2 : t ≤ 1000000000) (N : List ByteArray) : CrOk (c.tellC t N) := by
  have hn := ho.now
  refine ⟨⟨show 0 ≤ t by omega, h2⟩, ho.cook, ho.port, ho.every, ⟨show -1 ≤ t by omega, Int.le_refl _⟩, ho.few, ho.size, fun k => ?_, ho.min⟩
  obtain ⟨q1, q2⟩ := fold_upd t k N c.last
  show -1 ≤ (N.foldl (fun f x => upd f x t) c.last) k ∧ (N.foldl (fun f x => upd f x t) c.last) k ≤ 1000000000
  by_cases hk : k ∈ N
  · rw [q1 hk]; omega
  · rw [q2 hk]; exact ho.last k
theorem CrOk.when {c : CrV} (ho : CrOk c) {t : Int} (h1 : c.now ≤ t) (h2 : t ≤ 1000000000) : CrOk { c with now := t } := by
  have hn := ho.now; have hs := ho.sent
  exact ⟨⟨show 0 ≤ t by omega, h2⟩, ho.cook, ho.port, ho.every, ⟨hs.1, show c.sent ≤ t by omega⟩, ho.few, ho.size, ho.last, ho.min⟩
/-- A crier that was made and has names alone. -/
structure FreshC (c : CrV) (every : Int) : Prop where
  now : c.now = 0
  sent : c.sent = -1
  every : c.every = every
  last : ∀ n ∈ c.all, c.last n = -1
  ok : CrOk c
theorem FreshC.made {seed : ByteArray} {every : Int} (h : newEr seed 1 every = 0) : FreshC (newCr seed 1 every) every := ⟨rfl, rfl, rfl, (fun n hn => by cases hn), newCr_ok h⟩
theorem FreshC.add {c : CrV} {every : Int} (h : FreshC c every) {k : ByteArray} (hk : c.addE k false = 0) : FreshC (c.addC k) every := by
  refine ⟨h.now, h.sent, h.every, fun n hn => ?_, h.ok.add hk⟩
  show upd c.last k (-1) n = -1
  unfold upd
  split
  · rfl
  · rename_i q
    rcases List.mem_append.1 hn with hn | hn
    · exact h.last n hn
    · rw [List.mem_singleton.1 hn] at q
      exact absurd rfl q
end Go.Proofs.YtnflhjagmngimaaGreatDoor
