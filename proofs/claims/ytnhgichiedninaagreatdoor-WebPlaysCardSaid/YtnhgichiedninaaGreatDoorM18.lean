/-
  Several texts in one, in their build order. The walks of Failed and Want (package web). Conditions: the client lies as told. The walk of Bad (package web): a piece that was wrong. Conditions: the client lies as told. The walks of Wanted, find, Out and Wait (package web). Conditions: the client lies as told.
-/
import Derived.Test.YtnhgichiedninaaGreatDoorM17
import Derived.Test.YtnhgichiedninaaGreatDoorM14
namespace Go.Proofs.YtnhgichiedninaaGreatDoor
set_option linter.unusedSimpArgs false
set_option linter.unusedVariables false
open Go.RowKit Go.Shelf

set_option maxRecDepth 100000 in
set_option maxHeartbeats 2000000 in
theorem cFailed_no (B SB cap MB : Nat) (ps : List Nat) (c : CliV) (G : List (Value × Value)) (now web : Int) (gone : Bool) (w : World) (h : CliAt w B SB cap MB ps c G) (hno : c.tookE now web ≠ 0) :
    Calls Tryz.prog 15 #[.pointer (some ⟨B, 0, none⟩), .int .i64 now, .int .i64 web, .bool gone] w fun e w' => e = .returned (.int .i64 (c.tookE now web)) ∧ New w w' := by
  have HEN := hid (fun how W (n : New w W) => cended_no B SB cap MB ps c G now web how W (h.new n) hno)
  obtain ⟨E, hE⟩ : ∃ E, E = c.tookE now web := ⟨_, rfl⟩
  rw [← hE] at HEN ⊢
  clear h hno hE
  cases gone
  all_goals
    go_enter Tryz.func15, Tryz.ntmps15
    go_wp2_with fail
    refine (HEN.out _ _ (Mod.refl _ _)).mono ?_
    rintro e w1 ⟨rfl, n1⟩
    have N1 := hid n1
    clear n1
    go_wp2
    go_ret
    exact ⟨rfl, N1.out.alloc _⟩
set_option maxRecDepth 100000 in
set_option maxHeartbeats 2000000 in
theorem cFailed_yes (B SB cap MB : Nat) (ps : List Nat) (c : CliV) (G : List (Value × Value)) (now : Int) (k : Nat) (s : SeedV) (gone : Bool) (w : World) (h : CliAt w B SB cap MB ps c G) (hs : c.seeds[k]? = some s) (hok : c.tookE now k = 0) (hf : 0 ≤ s.fails ∧ s.fails ≤ 8) :
    Calls Tryz.prog 15 #[.pointer (some ⟨B, 0, none⟩), .int .i64 now, .int .i64 k, .bool gone] w fun e w' => e = .returned (.int .i64 0) ∧ CliAt w' B SB cap MB ps (c.failC now k s gone) G ∧ Mod (CliT B MB ps) w w' := by
  have HEN := hid (cended_fail B SB cap MB ps c G now k s gone w h hs hok hf)
  clear h hs hok hf
  cases gone with
  | false =>
    have HEN : Hid (Calls Tryz.prog 42 #[.pointer (some ⟨B, 0, none⟩), .int .i64 now, .int .i64 k, .int .i64 1] w _) := hid HEN.out
    go_enter Tryz.func15, Tryz.ntmps15
    go_wp2_with fail
    refine HEN.out.mono ?_
    rintro e w1 ⟨rfl, c1, m1⟩
    have C1 := hid c1; have M1 := hid m1
    clear c1 m1
    go_wp2
    go_ret
    exact ⟨rfl, C1.out.new ((Mod.refl _ _).alloc _), M1.out.alloc _⟩
  | true =>
    have HEN : Hid (Calls Tryz.prog 42 #[.pointer (some ⟨B, 0, none⟩), .int .i64 now, .int .i64 k, .int .i64 2] w _) := hid HEN.out
    go_enter Tryz.func15, Tryz.ntmps15
    go_wp2_with fail
    refine HEN.out.mono ?_
    rintro e w1 ⟨rfl, c1, m1⟩
    have C1 := hid c1; have M1 := hid m1
    clear c1 m1
    go_wp2
    go_ret
    exact ⟨rfl, C1.out.new ((Mod.refl _ _).alloc _), M1.out.alloc _⟩
def CliV.wantE (c : CliV) (piece : Int) : Int := if piece < 0 ∨ (c.n : Int) ≤ piece then 7 else 0
set_option maxRecDepth 100000 in
set_option maxHeartbeats 2000000 in
theorem cWant_no (B SB cap MB : Nat) (ps : List Nat) (c : CliV) (G : List (Value × Value)) (piece : Int) (to : Bool) (w : World) (h : CliAt w B SB cap MB ps c G) (hno : c.wantE piece ≠ 0) :
    Calls Tryz.prog 19 #[.pointer (some ⟨B, 0, none⟩), .int .i64 piece, .bool to] w fun e w' => e = .returned (.int .i64 (c.wantE piece)) ∧ New w w' := by
  have c1 := h.row.cellv 1 rfl; have cl := h.row.lt
  have hn1 := h.n1
  unfold CliV.wantE at hno ⊢
  by_cases g : piece < 0 ∨ (c.n : Int) ≤ piece
  · rw [if_pos g]
    clear h hno
    rcases g with g | g
    all_goals
      go_enter Tryz.func19, Tryz.ntmps19
      go_wp2
      go_ret
      exact ⟨rfl, Mod.refl _ _⟩
  · rw [if_neg g] at hno
    exact absurd rfl hno
set_option maxRecDepth 100000 in
set_option maxHeartbeats 2000000 in
theorem cWant_yes (B SB cap MB : Nat) (ps : List Nat) (c : CliV) (G : List (Value × Value)) (i : Nat) (to : Bool) (w : World) (h : CliAt w B SB cap MB ps c G) (hi : i < c.n) :
    Calls Tryz.prog 19 #[.pointer (some ⟨B, 0, none⟩), .int .i64 i, .bool to] w fun e w' => e = .returned (.int .i64 0) ∧ CliAt w' B SB cap MB ps { c with want := setL c.want i to } G ∧ Mod (CliT B MB ps) w w' := by
  have HWA := hid (cwant_any B SB cap MB ps c G i to w h hi)
  have c1 := h.row.cellv 1 rfl; have cl := h.row.lt
  have hn1 := h.n1
  have hiI : (i : Int) < (c.n : Int) := by omega
  clear h hi
  go_enter Tryz.func19, Tryz.ntmps19
  go_wp2_with fail
  refine HWA.out.mono ?_
  rintro e w1 ⟨rfl, c2, m2⟩
  have C2 := hid c2; have M2 := hid m2
  clear c2 m2
  go_wp2
  go_ret
  exact ⟨rfl, C2.out, M2.out.mono (fun q _ e => .inl e)⟩
end Go.Proofs.YtnhgichiedninaaGreatDoor

namespace Go.Proofs.YtnhgichiedninaaGreatDoor
set_option linter.unusedSimpArgs false
set_option linter.unusedVariables false
open Go.RowKit Go.Shelf

/-- Who gave a piece, looked up. -/
theorem gave_yes {w : World} {B SB cap MB : Nat} {ps : List Nat} {c : CliV} {G : List (Value × Value)} {f : Nat → Option Nat} (h : CliAt w B SB cap MB ps c G) (hG : GvAt G f) {i v : Nat} (hf : f i = some v) : (Instr.lookup 32 (.map (some MB)) (.int .i64 (i : Int)) true).run Tryz.prog w = .ok (.tuple #[.int .i64 (v : Int), .bool true]) w := by
  obtain ⟨j, hj⟩ := List.getElem?_of_mem (hG.2 i v hf)
  exact h.gave.look_at (P := Tryz.prog) Tryz.underlying32 Tryz.underlying3 (key_int i) hj true
theorem gave_ne {G : List (Value × Value)} {f : Nat → Option Nat} (hG : GvAt G f) {i : Nat} (hf : f i = none) : ∀ x ∈ G, x.1 ≠ .int .i64 (i : Int) := by
  intro x hx e
  obtain ⟨j, u, rfl, hj⟩ := hG.1 x hx
  have := int_inj e
  subst this
  rw [hf] at hj
  cases hj
theorem gave_no {w : World} {B SB cap MB : Nat} {ps : List Nat} {c : CliV} {G : List (Value × Value)} {f : Nat → Option Nat} (h : CliAt w B SB cap MB ps c G) (hG : GvAt G f) {i : Nat} (hf : f i = none) : (Instr.lookup 32 (.map (some MB)) (.int .i64 (i : Int)) true).run Tryz.prog w = .ok (.tuple #[.int .i64 0, .bool false]) w :=
  h.gave.look_no (P := Tryz.prog) Tryz.underlying32 Tryz.underlying3 (key_int i) (gave_ne hG hf) (z := .int .i64 0) (Tryz.zeroValue3 w) true
def without (f : Nat → Option Nat) (i : Nat) : Nat → Option Nat := fun j => if j = i then none else f j
theorem GvAt.del {G : List (Value × Value)} {f : Nat → Option Nat} (h : GvAt G f) (hd : (G.map (·.1)).Nodup) {i k : Nat} {u : Value} (hk : G[k]? = some (.int .i64 i, u)) : GvAt (G.eraseIdx k) (without f i) := by
  have hkl := (List.getElem?_eq_some_iff.1 hk).1
  have huniq : ∀ (j : Nat) (y : Value × Value), G[j]? = some y → y.1 = .int .i64 i → j = k := by
    intro j y hj hy
    have h1 : (G.map (·.1))[j]? = some (.int .i64 i) := by rw [List.getElem?_map, hj, Option.map_some, hy]
    have h2 : (G.map (·.1))[k]? = some (.int .i64 i) := by rw [List.getElem?_map, hk]; rfl
    have e1 := List.getElem?_eq_some_iff.1 h1
    have e2 := List.getElem?_eq_some_iff.1 h2
    exact (List.getElem_inj hd (h₀ := e1.1) (h₁ := e2.1)).1 (by rw [e1.2, e2.2])
  refine ⟨fun x hx => ?_, fun j t hj => ?_⟩
  · obtain ⟨m, hm⟩ := List.getElem?_of_mem hx
    rw [List.getElem?_eraseIdx] at hm
    by_cases e : m < k
    · rw [if_pos e] at hm
      obtain ⟨j, t, rfl, hf⟩ := h.1 x (List.mem_of_getElem? hm)
      refine ⟨j, t, rfl, ?_⟩
      show (if j = i then none else f j) = some t
      rw [if_neg (fun q => by have := huniq m _ hm (by rw [q]); omega)]
      exact hf
    · rw [if_neg e] at hm
      obtain ⟨j, t, rfl, hf⟩ := h.1 x (List.mem_of_getElem? hm)
      refine ⟨j, t, rfl, ?_⟩
      show (if j = i then none else f j) = some t
      rw [if_neg (fun q => by have := huniq (m + 1) _ hm (by rw [q]); omega)]
      exact hf
  · have hj : (if j = i then none else f j) = some t := hj
    by_cases e : j = i
    · rw [if_pos e] at hj; cases hj
    · rw [if_neg e] at hj
      obtain ⟨m, hm⟩ := List.getElem?_of_mem (h.2 j t hj)
      have hmk : m ≠ k := fun q => by
        subst q
        rw [hk] at hm
        cases hm
        exact e rfl
      by_cases q : m < k
      · exact List.mem_of_getElem? (i := m) (by rw [List.getElem?_eraseIdx, if_pos q]; exact hm)
      · refine List.mem_of_getElem? (i := m - 1) ?_
        rw [List.getElem?_eraseIdx, if_neg (by omega), show m - 1 + 1 = m by omega]
        exact hm
/-- Who gave a piece is forgotten. -/
theorem gave_del {w : World} {B SB cap MB : Nat} {ps : List Nat} {c : CliV} {G : List (Value × Value)} {f : Nat → Option Nat} (h : CliAt w B SB cap MB ps c G) (hG : GvAt G f) {i v : Nat} (hf : f i = some v) (ty : TypeId) :
    ∃ w' G', (Builtin.delete_ #[32, 3] ty #[.map (some MB), .int .i64 (i : Int)]).run Tryz.prog w = .ok (.tuple #[]) w' ∧ CliAt w' B SB cap MB ps c G' ∧ GvAt G' (without f i) ∧ Mod (fun q => q = MB) w w' := by
  obtain ⟨k, hk⟩ := List.getElem?_of_mem (hG.2 i v hf)
  obtain ⟨w', h1, h2, h3⟩ := h.gave.del_at (P := Tryz.prog) Tryz.underlying32 Tryz.underlying3 (key_int i) hk ty
  exact ⟨w', _, h1, h.map h2 h3, hG.del h.gave.keys.1 hk, h3⟩
def SeedV.badS (s : SeedV) : SeedV := ⟨s.frm, s.cnt, s.under, s.fails, s.bad + 1, s.after, s.out || decide (3 ≤ s.bad + 1)⟩
def CliV.badE (c : CliV) (f : Nat → Option Nat) (now web piece : Int) : Int :=
  if web < 0 ∨ (c.seeds.length : Int) ≤ web ∨ piece < 0 ∨ (c.n : Int) ≤ piece then 7 else if c.atE now ≠ 0 then c.atE now else if f piece.toNat = some web.toNat then 0 else 9
def CliV.badC (c : CliV) (now : Int) (k i : Nat) (s : SeedV) : CliV := ⟨c.seeds.set k s.badS, c.n, setL c.want i true, c.run, now⟩
set_option maxRecDepth 100000 in
set_option maxHeartbeats 4000000 in
theorem cBad_no (B SB cap MB : Nat) (ps : List Nat) (c : CliV) (G : List (Value × Value)) (f : Nat → Option Nat) (now web piece : Int) (w : World) (h : CliAt w B SB cap MB ps c G) (hG : GvAt G f) (hno : c.badE f now web piece ≠ 0) :
    Calls Tryz.prog 17 #[.pointer (some ⟨B, 0, none⟩), .int .i64 now, .int .i64 web, .int .i64 piece] w fun e w' => e = .returned (.int .i64 (c.badE f now web piece)) ∧ New w w' := by
  have HAT := hid (cat_any B SB cap MB ps c G now w h)
  have hr := h.room; have hfw := h.few; have hn1 := h.n1
  unfold maxLen at hr
  have c0 := h.row.cellv 0 rfl; have c1 := h.row.cellv 1 rfl; have c5 := h.row.cellv 5 rfl; have cl := h.row.lt
  have HC := hid h; have HG := hid hG
  clear h hG
  unfold CliV.badE at hno ⊢
  by_cases g1 : web < 0
  · rw [if_pos (.inl g1)]
    clear hno
    go_enter Tryz.func17, Tryz.ntmps17
    go_wp2
    go_ret
    exact ⟨rfl, Mod.refl _ _⟩
  by_cases g2 : (c.seeds.length : Int) ≤ web
  · rw [if_pos (.inr (.inl g2))]
    clear hno
    go_enter Tryz.func17, Tryz.ntmps17
    go_wp2
    go_ret
    exact ⟨rfl, Mod.refl _ _⟩
  by_cases g3 : piece < 0
  · rw [if_pos (.inr (.inr (.inl g3)))]
    clear hno
    go_enter Tryz.func17, Tryz.ntmps17
    go_wp2
    go_ret
    exact ⟨rfl, Mod.refl _ _⟩
  by_cases g4 : (c.n : Int) ≤ piece
  · rw [if_pos (.inr (.inr (.inr g4)))]
    clear hno
    go_enter Tryz.func17, Tryz.ntmps17
    go_wp2
    go_ret
    exact ⟨rfl, Mod.refl _ _⟩
  rw [if_neg (by omega)] at hno ⊢
  obtain ⟨A, hA⟩ : ∃ A, A = c.atE now := ⟨_, rfl⟩
  rw [← hA] at HAT hno ⊢
  clear hA
  by_cases g5 : A ≠ 0
  · rw [if_pos g5]
    have hb : (A != 0) = true := by rw [bne_iff_ne]; exact g5
    clear hno g5
    go_enter Tryz.func17, Tryz.ntmps17
    go_wp2_with (first | (go_at_call 36; refine HAT.out.mono ?_; rintro e w1 ⟨rfl, rfl⟩) | fail)
    go_ret
    exact ⟨rfl, Mod.refl _ _⟩
  obtain rfl : A = 0 := by simpa using g5
  rw [if_neg (by simp)] at hno ⊢
  obtain ⟨i, rfl⟩ := Int.eq_ofNat_of_zero_le (show 0 ≤ piece by omega)
  obtain ⟨k, rfl⟩ := Int.eq_ofNat_of_zero_le (show 0 ≤ web by omega)
  simp only [Int.toNat_natCast] at hno ⊢
  clear g5
  by_cases g6 : f i = some k
  · rw [if_pos g6] at hno
    exact absurd rfl hno
  rw [if_neg g6]
  clear hno
  cases hf : f i with
  | none =>
    have lk := gave_no HC.out HG.out hf
    clear g6 hf
    go_enter Tryz.func17, Tryz.ntmps17
    go_wp2_with (first | (go_at_call 36; refine HAT.out.mono ?_; rintro e w1 ⟨rfl, rfl⟩) | fail)
    go_ret
    exact ⟨rfl, Mod.refl _ _⟩
  | some v =>
    have lk := gave_yes HC.out HG.out hf
    have hvk : v ≠ k := fun e => g6 (by rw [hf, e])
    have hb : ((v : Int) != (k : Int)) = true := by rw [bne_iff_ne]; omega
    clear g6 hf hvk
    go_enter Tryz.func17, Tryz.ntmps17
    go_wp2_with (first | (go_at_call 36; refine HAT.out.mono ?_; rintro e w1 ⟨rfl, rfl⟩) | fail)
    go_ret
    exact ⟨rfl, Mod.refl _ _⟩
set_option maxRecDepth 100000 in
set_option maxHeartbeats 8000000 in
theorem cBad_yes (B SB cap MB : Nat) (ps : List Nat) (c : CliV) (G : List (Value × Value)) (f : Nat → Option Nat) (now : Int) (k i : Nat) (s : SeedV) (w : World) (h : CliAt w B SB cap MB ps c G) (hG : GvAt G f) (hs : c.seeds[k]? = some s) (hi : i < c.n) (hok : c.badE f now k i = 0) (hb : 0 ≤ s.bad ∧ s.bad ≤ 1000) :
    Calls Tryz.prog 17 #[.pointer (some ⟨B, 0, none⟩), .int .i64 now, .int .i64 k, .int .i64 i] w fun e w' => e = .returned (.int .i64 0) ∧ ∃ G', CliAt w' B SB cap MB ps (c.badC now k i s) G' ∧ GvAt G' (without f i) ∧ Mod (CliT B MB ps) w w' := by
  have hkl := (List.getElem?_eq_some_iff.1 hs).1
  have hA : c.atE now = 0 ∧ f i = some k := by
    unfold CliV.badE at hok
    rw [if_neg (by omega)] at hok
    by_cases hz : c.atE now = 0
    · rw [if_neg (by simpa using hz)] at hok
      simp only [Int.toNat_natCast] at hok
      refine ⟨hz, ?_⟩
      by_cases q : f i = some k
      · exact q
      · rw [if_neg q] at hok; cases hok
    · rw [if_pos hz] at hok
      exact absurd hok hz
  obtain ⟨ha0, hf⟩ := hA
  obtain ⟨t0, t1⟩ := at_facts ha0
  have HAT := hid (ha0 ▸ cat_any B SB cap MB ps c G now w h)
  have hr := h.room; have hfw := h.few; have hn1 := h.n1; have hnn := h.nums
  unfold maxLen at hr
  have c0 := h.row.cellv 0 rfl; have c1 := h.row.cellv 1 rfl; have c4 := h.row.cellv 4 rfl; have c5 := h.row.cellv 5 rfl; have cl := h.row.lt; have cf := h.row.frz 4
  have HC := hid h; have HG := hid hG; have HS := hid hs; have HI := hid hi; have HRS := hid (h.runs s (List.mem_of_getElem? hs))
  have lk := gave_yes h hG hf
  have C1 := h.time (t := now) ⟨by omega, t1⟩
  have d5 := C1.row.cellv 5 rfl; have dl := C1.row.lt
  obtain ⟨w2, G2, hdel, C2, g2, m2⟩ := gave_del C1 hG hf 0
  have HWA := hid (cwant_any B SB cap MB ps _ G2 i true w2 C2 (show i < c.n from hi))
  have HG2 := hid g2
  have M2 : Hid (Mod (CliT B MB ps) w w2) := hid ((Mod.set (S := CliT B MB ps) (Mod.refl _ _) ⟨B, 4, none⟩ _ (.inl (.inl rfl))).trans (m2.mono (fun q _ e => .inr (.inl e))))
  have hpl' : k < ps.length := by rw [h.len]; exact hkl
  obtain ⟨p, hp⟩ : ∃ p, ps[k]? = some p := ⟨ps[k], List.getElem?_eq_getElem hpl'⟩
  have HP := hid hp
  have hmem := hid (List.mem_of_getElem? hp)
  have hk0 : ¬ (k : Int) < 0 := by omega
  have hi0 : ¬ (i : Int) < 0 := by omega
  have hiI : ¬ (c.n : Int) ≤ (i : Int) := by omega
  have hkI : ¬ (c.seeds.length : Int) ≤ (k : Int) := by omega
  obtain ⟨K, hK⟩ := Int.eq_ofNat_of_zero_le (show 0 ≤ s.bad + 1 by omega)
  have hwK : IntKind.i64.wrap (s.bad + 1) = (K : Int) := by rw [hK, IntKind.wrap_i64]; omega
  have hbs : s.badS = ⟨s.frm, s.cnt, s.under, s.fails, K, s.after, s.out || decide (3 ≤ (K : Int))⟩ := by
    unfold SeedV.badS
    rw [hK]
  have HBS := hid hbs
  clear h hG hs hi hok ha0 hf C1 C2 g2 m2 hp hK hbs
  go_enter Tryz.func17, Tryz.ntmps17
  go_wp2_with (first | (go_at_call 36; refine HAT.out.mono ?_; rintro e w1 ⟨rfl, rfl⟩) | fail)
  refine HWA.out.mono ?_
  rintro e w3 ⟨rfl, c3, m3⟩
  have C3 := hid c3
  have M3 := hid (M2.out.trans (m3.mono (fun q _ e => .inl e)))
  have P3 := hid (c3.each k p s HP.out HS.out)
  have c0 := c3.row.cellv 0 rfl; have cl := c3.row.lt
  have s0 := c3.ptr k p HP.out; have sl := c3.slt
  have p4 : w3.cell? ⟨p, 4, none⟩ = some (.int .i64 s.bad) := P3.out.cellv 4 rfl
  have p6 : w3.cell? ⟨p, 6, none⟩ = some (.bool s.out) := P3.out.cellv 6 rfl
  have pl := P3.out.lt; have pf4 := P3.out.frz 4; have pf6 := P3.out.frz 6
  clear c3 m3 lk hdel d5 dl
  cases ho : s.out with
  | false =>
    rw [ho] at p6
    have HO := hid ho
    clear ho
    go_wp2
    go_ret
    have PP : Blk ((w3.setCell ⟨p, 4, none⟩ (.int .i64 K)).setCell ⟨p, 6, none⟩ (.bool (s.out || decide (3 ≤ (K : Int))))) p (seedRow s.badS) 82 := by
      rw [HBS.out]
      exact ((P3.out.set 4 _).set 6 _).row (by simp [seedRow])
    have MP : Mod (fun q => q = p) w3 ((w3.setCell ⟨p, 4, none⟩ (.int .i64 K)).setCell ⟨p, 6, none⟩ (.bool (s.out || decide (3 ≤ (K : Int))))) := Mod.set (S := fun q => q = p) (Mod.set (S := fun q => q = p) (Mod.refl _ _) ⟨p, 4, none⟩ _ (.inl rfl)) ⟨p, 6, none⟩ _ (.inl rfl)
    have CC := C3.out.put HP.out PP MP HRS.out
    have MM := M3.out.trans (MP.mono (fun q _ e => .inr (.inr (by have e2 : q = p := e; rw [e2]; exact hmem.out))))
    rw [HO.out] at CC MM
    exact ⟨rfl, G2, CC, HG2.out, MM⟩
  | true =>
    rw [ho] at p6
    have HO := hid ho
    clear ho
    go_wp2
    go_ret
    have PP : Blk ((w3.setCell ⟨p, 4, none⟩ (.int .i64 K)).setCell ⟨p, 6, none⟩ (.bool (s.out || decide (3 ≤ (K : Int))))) p (seedRow s.badS) 82 := by
      rw [HBS.out]
      exact ((P3.out.set 4 _).set 6 _).row (by simp [seedRow])
    have MP : Mod (fun q => q = p) w3 ((w3.setCell ⟨p, 4, none⟩ (.int .i64 K)).setCell ⟨p, 6, none⟩ (.bool (s.out || decide (3 ≤ (K : Int))))) := Mod.set (S := fun q => q = p) (Mod.set (S := fun q => q = p) (Mod.refl _ _) ⟨p, 4, none⟩ _ (.inl rfl)) ⟨p, 6, none⟩ _ (.inl rfl)
    have CC := C3.out.put HP.out PP MP HRS.out
    have MM := M3.out.trans (MP.mono (fun q _ e => .inr (.inr (by have e2 : q = p := e; rw [e2]; exact hmem.out))))
    rw [HO.out] at CC MM
    exact ⟨rfl, G2, CC, HG2.out, MM⟩
end Go.Proofs.YtnhgichiedninaaGreatDoor

namespace Go.Proofs.YtnhgichiedninaaGreatDoor
set_option linter.unusedSimpArgs false
set_option linter.unusedVariables false
open Go.RowKit Go.Shelf

/-- What is wanted, with what is under way of the first j pieces. -/
def CliV.wantUpto (c : CliV) : Nat → List UInt8
  | 0 => c.want
  | j + 1 => if flyB c.seeds j then setL (c.wantUpto j) j true else c.wantUpto j
theorem wantUpto_ok {c : CliV} (h : FieldOf c.n c.want) : ∀ j, j ≤ c.n → FieldOf c.n (c.wantUpto j) ∧ ∀ i, bitL (c.wantUpto j) i = (bitL c.want i || (decide (i < j) && flyB c.seeds i))
  | 0, _ => ⟨h, fun i => by simp [CliV.wantUpto]⟩
  | j + 1, hj => by
    obtain ⟨h1, h2⟩ := wantUpto_ok h j (by omega)
    rw [CliV.wantUpto]
    cases hx : flyB c.seeds j with
    | true =>
      rw [if_pos rfl]
      refine ⟨h1.set (by omega) true, fun i => ?_⟩
      rw [h1.bit_set (by omega), h2 i]
      by_cases e : i = j
      · subst e; rw [if_pos rfl, hx]; simp
      · rw [if_neg e]
        congr 2
        by_cases q : i < j
        · rw [decide_eq_true q, decide_eq_true (by omega)]
        · rw [decide_eq_false q, decide_eq_false (by omega)]
    | false =>
      rw [if_neg (by simp)]
      refine ⟨h1, fun i => ?_⟩
      rw [h2 i]
      by_cases e : i = j
      · subst e; rw [hx]; simp
      · congr 2
        by_cases q : i < j
        · rw [decide_eq_true q, decide_eq_true (by omega)]
        · rw [decide_eq_false q, decide_eq_false (by omega)]
set_option maxRecDepth 100000 in
set_option maxHeartbeats 4000000 in
theorem cWanted_any (B SB cap MB : Nat) (ps : List Nat) (c : CliV) (G : List (Value × Value)) (w : World) (h : CliAt w B SB cap MB ps c G) :
    Calls Tryz.prog 49 #[.pointer (some ⟨B, 0, none⟩)] w fun e w' => e = .returned (.string ⟨(c.wantUpto c.n).toArray⟩) ∧ New w w' := by
  have HC := hid h
  have HF := hid (wantUpto_ok h.fld)
  have c1 := h.row.cellv 1 rfl; have c2 := h.row.cellv 2 rfl; have cl := h.row.lt
  have hn1 := h.n1
  clear h
  go_enter Tryz.func49, Tryz.ntmps49
  go_wp2_with fail
  clear c1 c2 cl
  go_loopw [15, 3] (fun x v wr => ∃ k : Nat, x = .int .i64 k ∧ v = .string ⟨(c.wantUpto k).toArray⟩ ∧ k ≤ c.n ∧ New w wr) (fun x _ _ => c.n - (intOf x).toNat)
  case atStart => exact ⟨0, rfl, rfl, by omega, Mod.refl _ _⟩
  case round =>
    obtain ⟨k, rfl, rfl, hk, hn⟩ := hrel
    have HN := hid hn
    have hnx : c.wantUpto (k + 1) = if flyB c.seeds k then setL (c.wantUpto k) k true else c.wantUpto k := rfl
    have HNX := hid hnx
    have hC2 := HC.out.new hn
    by_cases hlt : k < c.n
    · have HFL := hid (cflying_any B SB cap MB ps c G k wr hC2)
      have c1 := hC2.row.cellv 1 rfl; have cl := hC2.row.lt
      have HBS := hid (fun W => bSet_any c.n k ⟨(c.wantUpto k).toArray⟩ true W (by simpa using (HF.out k hk).1) hn1 hlt)
      have hkI : (k : Int) < (c.n : Int) := by omega
      obtain ⟨S, hS⟩ : ∃ S : List UInt8, S = c.wantUpto k := ⟨_, rfl⟩
      rw [← hS] at HNX HBS
      rw [← hS]
      have hST : (⟨S.toArray⟩ : ByteArray).data.toList = S := by simp
      rw [hST] at HBS
      clear hn hnx hC2 hS hST
      cases hfl : flyB c.seeds k with
      | true =>
        rw [hfl] at HFL HNX
        clear hfl
        go_wp2_with fail
        refine HFL.out.mono ?_
        rintro e w1 ⟨rfl, n1⟩
        have N1 := hid n1
        have d1 := New.cellv n1 c1; have dl := Nat.lt_of_lt_of_le cl n1.size
        clear n1
        go_wp2_with fail
        refine (HBS.out _).mono ?_
        rintro e w2 ⟨rfl, n2⟩
        have N2 := hid n2
        clear n2
        go_wp2
        exact ⟨⟨k + 1, by simp, by rw [HNX.out]; rfl, by omega, (HN.out.trans N1.out).trans N2.out⟩, by simp [intOf]; omega⟩
      | false =>
        rw [hfl] at HFL HNX
        clear hfl
        go_wp2_with fail
        refine HFL.out.mono ?_
        rintro e w1 ⟨rfl, n1⟩
        have N1 := hid n1
        clear n1
        go_wp2
        exact ⟨⟨k + 1, by simp, by rw [HNX.out]; rfl, by omega, HN.out.trans N1.out⟩, by simp [intOf]; omega⟩
    · obtain rfl : k = c.n := by omega
      clear hn hnx hC2
      go_wp2
      go_ret
      exact ⟨rfl, HN.out⟩
/-! ### find, Out, Wait -/
set_option maxRecDepth 100000 in
set_option maxHeartbeats 2000000 in
theorem cfind_no (B SB cap MB : Nat) (ps : List Nat) (c : CliV) (G : List (Value × Value)) (web : Int) (w : World) (h : CliAt w B SB cap MB ps c G) (hno : web < 0 ∨ (c.seeds.length : Int) ≤ web) :
    Calls Tryz.prog 85 #[.pointer (some ⟨B, 0, none⟩), .int .i64 web] w fun e w' => e = .returned (.tuple #[.pointer none, .int .i64 7]) ∧ w = w' := by
  have c0 := h.row.cellv 0 rfl; have cl := h.row.lt
  have hr := h.room; have hfw := h.few
  unfold maxLen at hr
  clear h
  rcases hno with g | g
  all_goals
    go_enter Tryz.func85, Tryz.ntmps85
    go_wp2
    go_ret2
    exact ⟨rfl, rfl⟩
set_option maxRecDepth 100000 in
set_option maxHeartbeats 2000000 in
theorem cfind_yes (B SB cap MB : Nat) (ps : List Nat) (c : CliV) (G : List (Value × Value)) (k : Nat) (w : World) (h : CliAt w B SB cap MB ps c G) (hk : k < c.seeds.length) :
    Calls Tryz.prog 85 #[.pointer (some ⟨B, 0, none⟩), .int .i64 k] w fun e w' => (∃ p, ps[k]? = some p ∧ e = .returned (.tuple #[.pointer (some ⟨p, 0, none⟩), .int .i64 0])) ∧ w = w' := by
  have c0 := h.row.cellv 0 rfl; have cl := h.row.lt
  have hr := h.room; have hfw := h.few
  unfold maxLen at hr
  obtain ⟨p, hp, hp2, hp3⟩ := h.seed hk
  have sl := h.slt
  have HP := hid hp
  have hkI : ¬ (c.seeds.length : Int) ≤ (k : Int) := by omega
  clear h hp hp3
  go_enter Tryz.func85, Tryz.ntmps85
  go_wp2
  go_ret2
  exact ⟨⟨p, HP.out, rfl⟩, rfl⟩
def outR (S : List SeedV) (web : Int) : Bool × Int := if web < 0 ∨ (S.length : Int) ≤ web then (false, 7) else match S[web.toNat]? with
  | some s => (s.out, 0)
  | none => (false, 7)
def waitR (S : List SeedV) (web : Int) : Int × Int := if web < 0 ∨ (S.length : Int) ≤ web then (0, 7) else match S[web.toNat]? with
  | some s => (s.after, 0)
  | none => (0, 7)
set_option maxRecDepth 100000 in
set_option maxHeartbeats 2000000 in
theorem cOut_any (B SB cap MB : Nat) (ps : List Nat) (c : CliV) (G : List (Value × Value)) (web : Int) (w : World) (h : CliAt w B SB cap MB ps c G) :
    Calls Tryz.prog 53 #[.pointer (some ⟨B, 0, none⟩), .int .i64 web] w fun e w' => e = .returned (.tuple #[.bool (outR c.seeds web).1, .int .i64 (outR c.seeds web).2]) ∧ w = w' := by
  by_cases g : web < 0 ∨ (c.seeds.length : Int) ≤ web
  · have HF := hid (cfind_no B SB cap MB ps c G web w h g)
    unfold outR
    rw [if_pos g]
    clear h g
    go_enter Tryz.func53, Tryz.ntmps53
    go_wp2_with fail
    refine HF.out.mono ?_
    rintro e w1 ⟨rfl, rfl⟩
    go_wp2
    go_ret2
    exact ⟨rfl, rfl⟩
  · obtain ⟨k, rfl⟩ := Int.eq_ofNat_of_zero_le (show 0 ≤ web by omega)
    have hk : k < c.seeds.length := by omega
    have HF := hid (cfind_yes B SB cap MB ps c G k w h hk)
    obtain ⟨p, hp, hp2, hp3⟩ := h.seed hk
    have HP := hid hp
    have he : outR c.seeds k = (c.seeds[k].out, 0) := by
      unfold outR
      rw [if_neg g, Int.toNat_natCast, List.getElem?_eq_getElem hk]
    rw [he]
    have p6 : w.cell? ⟨p, 6, none⟩ = some (.bool c.seeds[k].out) := hp3.cellv 6 rfl
    have pl := hp3.lt
    obtain ⟨o, ho⟩ : ∃ o, o = c.seeds[k].out := ⟨_, rfl⟩
    rw [← ho] at p6 ⊢
    clear h g hp hp2 hp3 he ho
    go_enter Tryz.func53, Tryz.ntmps53
    go_wp2_with fail
    refine HF.out.mono ?_
    rintro e w1 ⟨⟨p2, hp2, rfl⟩, rfl⟩
    obtain rfl : p2 = p := by rw [HP.out] at hp2; injection hp2 with hp2; exact hp2.symm
    clear hp2
    go_wp2
    go_ret2
    exact ⟨rfl, rfl⟩
set_option maxRecDepth 100000 in
set_option maxHeartbeats 2000000 in
theorem cWait_any (B SB cap MB : Nat) (ps : List Nat) (c : CliV) (G : List (Value × Value)) (web : Int) (w : World) (h : CliAt w B SB cap MB ps c G) :
    Calls Tryz.prog 55 #[.pointer (some ⟨B, 0, none⟩), .int .i64 web] w fun e w' => e = .returned (.tuple #[.int .i64 (waitR c.seeds web).1, .int .i64 (waitR c.seeds web).2]) ∧ w = w' := by
  by_cases g : web < 0 ∨ (c.seeds.length : Int) ≤ web
  · have HF := hid (cfind_no B SB cap MB ps c G web w h g)
    unfold waitR
    rw [if_pos g]
    clear h g
    go_enter Tryz.func55, Tryz.ntmps55
    go_wp2_with fail
    refine HF.out.mono ?_
    rintro e w1 ⟨rfl, rfl⟩
    go_wp2
    go_ret2
    exact ⟨rfl, rfl⟩
  · obtain ⟨k, rfl⟩ := Int.eq_ofNat_of_zero_le (show 0 ≤ web by omega)
    have hk : k < c.seeds.length := by omega
    have HF := hid (cfind_yes B SB cap MB ps c G k w h hk)
    obtain ⟨p, hp, hp2, hp3⟩ := h.seed hk
    have HP := hid hp
    have he : waitR c.seeds k = (c.seeds[k].after, 0) := by
      unfold waitR
      rw [if_neg g, Int.toNat_natCast, List.getElem?_eq_getElem hk]
    rw [he]
    have p5 : w.cell? ⟨p, 5, none⟩ = some (.int .i64 c.seeds[k].after) := hp3.cellv 5 rfl
    have pl := hp3.lt
    obtain ⟨o, ho⟩ : ∃ o, o = c.seeds[k].after := ⟨_, rfl⟩
    rw [← ho] at p5 ⊢
    clear h g hp hp2 hp3 he ho
    go_enter Tryz.func55, Tryz.ntmps55
    go_wp2_with fail
    refine HF.out.mono ?_
    rintro e w1 ⟨⟨p2, hp2, rfl⟩, rfl⟩
    obtain rfl : p2 = p := by rw [HP.out] at hp2; injection hp2 with hp2; exact hp2.symm
    clear hp2
    go_wp2
    go_ret2
    exact ⟨rfl, rfl⟩
end Go.Proofs.YtnhgichiedninaaGreatDoor
