/-
  Several texts in one, in their build order. The walk of When (the reference's client of web seeds). Conditions: the client lies as told. Plain law (the chooser of web seeds): the client and its specification stand alike, and stay so whatever is told.
-/
import Derived.Test.YtnhgichiedninaaGreatDoorM34
import Derived.Test.YtnhgichiedninaaGreatDoorM15
import Derived.Test.YtnhgichiedninaaGreatDoorM16
import Derived.Test.YtnhgichiedninaaGreatDoorM18
import Derived.Test.YtnhgichiedninaaGreatDoorM19
import Derived.Test.YtnhgichiedninaaGreatDoorM37
namespace Go.Proofs.YtnhgichiedninaaGreatDoor
set_option linter.unusedSimpArgs false
set_option linter.unusedVariables false
open Go.RowKit Go.Shelf

def leastStepW (now b : Int) (v : WebV) : Int := if v.out = false ∧ v.cnt = 0 ∧ (b < 0 ∨ max now v.til < b) then max now v.til else b
def leastW (now : Int) (L : List WebV) : Int := L.foldl (leastStepW now) (-1)
theorem leastW_next {now : Int} {S : List WebV} {k : Nat} (h : k < S.length) : leastW now (S.take (k + 1)) = leastStepW now (leastW now (S.take k)) S[k] := by
  unfold leastW
  rw [List.take_succ_eq_append_getElem h, List.foldl_append]
  rfl
def RefV.whenE (r : RefV) (now : Int) : Int := if r.atE now 0 ≠ 0 then r.atE now 0 else if leastW now r.webs < 0 ∨ 1000000000 < leastW now r.webs ∨ r.best.2 = 0 then 8 else 0
theorem field1 (a b : Int) (w : World) : (Instr.field 34 (.agg #[.int .i64 a, .int .i64 b]) 1).run Tryz.prog w = .ok (.int .i64 b) w := by kernel_rfl
set_option maxRecDepth 100000 in
set_option maxHeartbeats 8000000 in
theorem rWhen_any (R WB wc DB dc GB gc : Nat) (r : RefV) (now : Int) (w : World) (h : RefAt w R WB wc DB dc GB gc r) (haf : ∀ v ∈ r.webs, 0 ≤ v.til ∧ v.til ≤ 2000000000) :
    Calls Tryz.prog 48 #[.pointer (some ⟨R, 0, none⟩), .int .i64 now] w fun e w' => (r.whenE now ≠ 0 ∧ e = .returned (.tuple #[.int .i64 0, .int .i64 (r.whenE now)]) ∧ New w w') ∨
      (r.whenE now = 0 ∧ e = .returned (.tuple #[.int .i64 (leastW now r.webs), .int .i64 0]) ∧ RefAt w' R WB wc DB dc GB gc { r with now := now } ∧ Mod (RefT R WB DB GB) w w') := by
  have HR := hid h
  have HAT := hid (rat_any R WB wc DB dc GB gc r now 0 w h)
  have HLO := hid (fun W (n : New w W) => rlongest_any R WB wc DB dc GB gc r W (h.new n))
  have hfw := h.few.1; have hcp := h.caps.1; have hnn := h.nums
  unfold maxLen at hcp
  have c0 := h.row.cellv 0 rfl; have cl := h.row.lt
  obtain ⟨E, hE⟩ : ∃ E, E = r.whenE now := ⟨_, rfl⟩
  rw [← hE]
  unfold RefV.whenE at hE
  have hz : r.atE now 0 = 0 → r.now ≤ now ∧ now ≤ 1000000000 := fun q => ⟨(atE_zero q).1, (atE_zero q).2.1⟩
  obtain ⟨A, hA⟩ : ∃ A, A = r.atE now 0 := ⟨_, rfl⟩
  rw [← hA] at HAT hE hz
  clear h hA
  by_cases g1 : A = 0
  rotate_left
  · rw [if_pos g1] at hE
    have hb1 : (A != 0) = true := by rw [bne_iff_ne]; exact g1
    have HE := hid hE; have HG := hid g1
    clear hE g1 hz
    go_enter Tryz.func48, Tryz.ntmps48
    go_wp2_with fail
    refine HAT.out.mono ?_
    rintro e w1 ⟨rfl, rfl⟩
    go_wp2
    go_ret2
    exact .inl ⟨by rw [HE.out]; exact HG.out, by rw [HE.out]; rfl, Mod.refl _ _⟩
  subst g1
  obtain ⟨t0, t1⟩ := hz rfl
  rw [if_neg (by simp)] at hE
  obtain ⟨ba, hba⟩ : ∃ ba, ba = r.best.1 := ⟨_, rfl⟩
  obtain ⟨bb, hbb⟩ : ∃ bb, bb = r.best.2 := ⟨_, rfl⟩
  rw [← hba, ← hbb] at HLO
  rw [← hbb] at hE
  have HE := hid hE
  have HAF := hid haf
  clear hE hz haf hba hbb
  go_enter Tryz.func48, Tryz.ntmps48
  go_wp2_with fail
  refine HAT.out.mono ?_
  rintro e w1 ⟨rfl, rfl⟩
  go_wp2
  clear c0 cl
  go_loopw [22, 7] (fun x y wr => ∃ (k : Nat) (b : Int), x = .int .i64 k ∧ y = .int .i64 b ∧ k ≤ r.webs.length ∧ b = leastW now (r.webs.take k) ∧ (-1 ≤ b ∧ b ≤ 2000000000) ∧ New w wr) (fun x _ _ => r.webs.length - (intOf x).toNat)
  case atStart => exact ⟨0, -1, rfl, rfl, by omega, rfl, by omega, Mod.refl _ _⟩
  case round =>
    obtain ⟨k, b, rfl, rfl, hk, hb, hbb, hn⟩ := hrel
    have HB := hid hb; have HN := hid hn
    by_cases hlt : k < r.webs.length
    · obtain ⟨q1, q2⟩ := HAF.out r.webs[k] (List.getElem_mem hlt)
      obtain ⟨g0, g1, g2, g3, g4, g5⟩ := (HR.out.new hn).seed (List.getElem?_eq_getElem hlt)
      have gl := (HR.out.new hn).webs.lt
      have hnx := leastW_next (now := now) hlt
      rw [← hb] at hnx
      obtain ⟨s5, hs5⟩ : ∃ s5, s5 = r.webs[k] := ⟨_, rfl⟩
      rw [← hs5] at g0 g1 g2 g3 g4 g5 hnx q1 q2
      obtain ⟨o, ho⟩ : ∃ o, o = s5.out := ⟨_, rfl⟩
      obtain ⟨u, hu⟩ : ∃ u, u = s5.cnt := ⟨_, rfl⟩
      obtain ⟨m, hm⟩ : ∃ m, m = max now s5.til := ⟨_, rfl⟩
      have hnx2 : leastW now (r.webs.take (k + 1)) = if o = false ∧ u = 0 ∧ (b < 0 ∨ m < b) then m else b := by rw [hnx, leastStepW, ← ho, ← hu, ← hm]
      have HNX := hid hnx2
      rw [← hu] at g1
      rw [← ho] at g5
      have hm9 : 0 ≤ m ∧ m ≤ 2000000000 := by omega
      have hmx : max now s5.til = m := hm.symm
      clear hb hn hnx hnx2 hs5 ho hu hm
      cases o with
      | true => go_wp2
                exact ⟨⟨k + 1, b, by simp, rfl, by omega, by rw [HNX.out]; first | (rw [if_pos ⟨rfl, by assumption, by omega⟩]; done) | (rw [if_neg (by simp <;> omega)]), by omega, HN.out.alloc _⟩, by simp [intOf]; omega⟩
      | false =>
        by_cases hu0 : u = 0
        · have hub : (u == 0) = true := by rw [hu0]; rfl
          by_cases hb0 : b < 0
          · have HU0 := hid hu0
            clear hu0
            go_wp2
            exact ⟨⟨k + 1, m, by simp, rfl, by omega, by rw [HNX.out, if_pos ⟨rfl, HU0.out, by omega⟩], by omega, HN.out.alloc _⟩, by simp [intOf]; omega⟩
          · by_cases hmb : m < b
            · have HU0 := hid hu0
              clear hu0
              go_wp2
              exact ⟨⟨k + 1, m, by simp, rfl, by omega, by rw [HNX.out, if_pos ⟨rfl, HU0.out, by omega⟩], by omega, HN.out.alloc _⟩, by simp [intOf]; omega⟩
            · have HU0 := hid hu0
              clear hu0
              go_wp2
              exact ⟨⟨k + 1, b, by simp, rfl, by omega, by rw [HNX.out, if_neg (by rintro ⟨-, -, q⟩; omega)], by omega, HN.out.alloc _⟩, by simp [intOf]; omega⟩
        · have hub : (u == 0) = false := by rw [beq_eq_false_iff_ne]; exact hu0
          have HU0 := hid hu0
          clear hu0
          go_wp2
          exact ⟨⟨k + 1, b, by simp, rfl, by omega, by rw [HNX.out, if_neg (fun q => HU0.out q.2.1)], by omega, HN.out.alloc _⟩, by simp [intOf]; omega⟩
    · have hkk : r.webs.take k = r.webs := List.take_of_length_le (by omega)
      rw [hkk] at HB
      rw [← HB.out] at HE
      have C5 := hid (HR.out.new hn)
      have c4 := C5.out.row.cellv 4 rfl; have cl := C5.out.row.lt; have cf := C5.out.row.frz 4
      clear hb hn hkk
      by_cases g2 : b < 0
      · rw [if_pos (.inl g2)] at HE
        go_wp2
        go_ret2
        exact .inl ⟨by rw [HE.out]; decide, by rw [HE.out]; rfl, HN.out⟩
      by_cases g3 : 1000000000 < b
      · rw [if_pos (.inr (.inl g3))] at HE
        go_wp2
        go_ret2
        exact .inl ⟨by rw [HE.out]; decide, by rw [HE.out]; rfl, HN.out⟩
      by_cases g4 : bb = 0
      · rw [if_pos (.inr (.inr g4))] at HE
        have hbb1 : (bb == 0) = true := by rw [g4]; rfl
        clear g4
        go_wp2_with fail
        refine (HLO.out _ HN.out).mono ?_
        rintro e w5 ⟨rfl, n5⟩
        have N5 := hid (HN.out.trans n5)
        have hfd := field1 ba bb w5
        clear n5 c4 cl cf
        go_wp2
        go_ret2
        exact .inl ⟨by rw [HE.out]; decide, by rw [HE.out]; rfl, N5.out⟩
      · rw [if_neg (by rintro (q | q | q); exact g2 q; exact g3 q; exact g4 q)] at HE
        have hbb1 : (bb == 0) = false := by rw [beq_eq_false_iff_ne]; exact g4
        clear g4
        go_wp2_with fail
        refine (HLO.out _ HN.out).mono ?_
        rintro e w5 ⟨rfl, n5⟩
        have N5 := hid (HN.out.trans n5)
        have C6 := hid (C5.out.new n5)
        clear n5 c4 cl cf
        have hfd := field1 ba bb w5
        have c4 := C6.out.row.cellv 4 rfl; have cl := C6.out.row.lt; have cf := C6.out.row.frz 4
        go_wp2
        go_ret2
        exact .inr ⟨HE.out, by rw [← HB.out]; rfl, C6.out.time (t := now) ⟨by omega, t1⟩, Mod.set (S := RefT R WB DB GB) (New.mod N5.out) ⟨R, 4, none⟩ _ (.inl (.inl rfl))⟩
end Go.Proofs.YtnhgichiedninaaGreatDoor

namespace Go.Proofs.YtnhgichiedninaaGreatDoor
set_option linter.unusedSimpArgs false
set_option linter.unusedVariables false
open Go.RowKit Go.Shelf

def toW (s : SeedV) : WebV := ⟨if s.under then s.frm else 0, if s.under then s.cnt else 0, s.fails, s.after, s.bad, s.out⟩
structure Okay (n : Nat) (N : Int) (s : SeedV) : Prop where
  cnt : s.under = true → 1 ≤ s.cnt
  rng : 0 ≤ s.frm ∧ 0 ≤ s.cnt ∧ s.frm + s.cnt ≤ n
  f8 : 0 ≤ s.fails ∧ s.fails ≤ 8
  f7 : s.under = true ∨ s.out = false → s.fails ≤ 7
  bad : 0 ≤ s.bad ∧ s.bad ≤ N
  aft : 0 ≤ s.after ∧ s.after ≤ 1000600000
def giveOf (f : Nat → Option Nat) (i : Nat) : Int := match f i with
  | some k => k
  | none => -1
structure Alk (N : Int) (c : CliV) (f : Nat → Option Nat) (r : RefV) : Prop where
  webs : r.webs = c.seeds.map toW
  few : 1 ≤ c.seeds.length
  lw : r.wanted.length = c.n
  lg : r.gave.length = c.n
  run : r.run = c.run
  now : r.now = c.now
  fld : FieldOf c.n c.want
  want : ∀ i, bitL c.want i = r.wanted.getD i false
  gave : ∀ i, i < c.n → r.gave[i]? = some (giveOf f i)
  okay : ∀ s ∈ c.seeds, Okay c.n N s
  apart : ∀ (i j : Nat) (s t : SeedV), i ≠ j → c.seeds[i]? = some s → c.seeds[j]? = some t → s.under = true → t.under = true → s.frm + s.cnt ≤ t.frm ∨ t.frm + t.cnt ≤ s.frm
  run1 : 1 ≤ c.run
  now0 : 0 ≤ c.now
theorem Okay.mono {n : Nat} {N M : Int} {s : SeedV} (h : Okay n N s) (q : N ≤ M) : Okay n M s := ⟨h.cnt, h.rng, h.f8, h.f7, ⟨h.bad.1, by have := h.bad.2; omega⟩, h.aft⟩
theorem Alk.mono {N M : Int} {c : CliV} {f : Nat → Option Nat} {r : RefV} (h : Alk N c f r) (q : N ≤ M) : Alk M c f r := ⟨h.webs, h.few, h.lw, h.lg, h.run, h.now, h.fld, h.want, h.gave, fun s hs => (h.okay s hs).mono q, h.apart, h.run1, h.now0⟩
theorem has_toW (s : SeedV) (i : Nat) : (toW s).has i = s.has i := by
  unfold toW WebV.has SeedV.has
  cases s.under with
  | true => simp
  | false =>
    simp
theorem taken_fly (S : List SeedV) (i : Nat) : takenB (S.map toW) i = flyB S i := by
  unfold takenB flyB
  rw [List.any_map]
  congr 1
  funext s
  exact has_toW s i
theorem Alk.freeE {N : Int} {c : CliV} {f : Nat → Option Nat} {r : RefV} (h : Alk N c f r) : r.free = c.free := by
  funext i
  unfold RefV.free CliV.free
  rw [h.webs, taken_fly, h.want]
theorem Alk.bestE {N : Int} {c : CliV} {f : Nat → Option Nat} {r : RefV} (h : Alk N c f r) : r.best = match c.best with
    | some b => (b.1, min (b.2 : Int) c.run)
    | none => (0, 0) := by
  unfold RefV.best CliV.best
  rw [h.freeE, h.lw, h.run]
  exact bestR_zero c.run h.run1 _ (fun x hx => (runs_good c.free c.n (c.n - 0) 0 (Nat.le_refl _) x hx).2.1)
theorem Alk.frmE {N : Int} {c : CliV} {f : Nat → Option Nat} {r : RefV} (h : Alk N c f r) : (r.best.1 : Int) = c.nFrm := by
  rw [h.bestE]
  unfold CliV.nFrm
  cases c.best <;> rfl
theorem Alk.cntE {N : Int} {c : CliV} {f : Nat → Option Nat} {r : RefV} (h : Alk N c f r) : r.best.2 = c.nCnt := by
  rw [h.bestE]
  have := h.run1
  unfold CliV.nCnt
  cases c.best with
  | some b => rfl
  | none =>
    show (0 : Int) = min ((0 : Nat) : Int) c.run
    omega
theorem Alk.goodE {N : Int} {c : CliV} {f : Nat → Option Nat} {r : RefV} (h : Alk N c f r) {b : Nat × Nat} (hb : c.best = some b) : 1 ≤ b.2 ∧ b.1 + b.2 ≤ c.n ∧ ∀ k, b.1 ≤ k → k < b.1 + b.2 → c.free k = true := by
  rcases best_mem c.run _ none b hb with q | q
  · cases q
  · exact (runs_good c.free c.n (c.n - 0) 0 (Nat.le_refl _) b q).2
theorem Alk.someE {N : Int} {c : CliV} {f : Nat → Option Nat} {r : RefV} (h : Alk N c f r) : decide (0 < r.best.2) = c.best.isSome := by
  have hr := h.run1
  rw [h.bestE]
  cases hb : c.best with
  | some b =>
    have := (h.goodE hb).1
    simp only [Option.isSome_some, decide_eq_true_eq]
    omega
  | none => rfl
/-- What the reference's Next wants to be told. -/
theorem Alk.sane {N : Int} {c : CliV} {f : Nat → Option Nat} {r : RefV} (h : Alk N c f r) : 0 ≤ r.best.2 ∧ (r.best.1 : Int) + r.best.2 ≤ r.wanted.length := by
  have hr := h.run1
  rw [h.bestE, h.lw]
  cases hb : c.best with
  | some b =>
    have := h.goodE hb
    simp only
    omega
  | none => simp
theorem findIdx_map {α β : Type} (g : α → β) (p : α → Bool) (q : β → Bool) : ∀ (S : List α), (∀ s ∈ S, q (g s) = p s) → (S.map g).findIdx? q = S.findIdx? p
  | [], _ => rfl
  | s :: S, h => by
    rw [List.map_cons, List.findIdx?_cons, List.findIdx?_cons, h s (List.mem_cons_self ..), findIdx_map g p q S (fun t ht => h t (List.mem_cons_of_mem _ ht))]
theorem Okay.cnt0 {n : Nat} {N : Int} {s : SeedV} (h : Okay n N s) : decide ((toW s).cnt = 0) = !s.under := by
  have h1 := h.cnt
  unfold toW
  cases hu : s.under with
  | true =>
    have := h1 hu
    simp only [if_true, Bool.not_true, decide_eq_false_iff_not]
    omega
  | false => simp
theorem Alk.idxE {N : Int} {c : CliV} {f : Nat → Option Nat} {r : RefV} (h : Alk N c f r) (now : Int) : r.nIdx now = c.nIdx now := by
  unfold RefV.nIdx CliV.nIdx
  rw [h.webs]
  refine findIdx_map _ _ _ _ (fun s hs => ?_)
  unfold freeW freeS
  rw [(h.okay s hs).cnt0]
  rfl
theorem Alk.at0 {N : Int} {c : CliV} {f : Nat → Option Nat} {r : RefV} (h : Alk N c f r) (now web : Int) : r.atE now web = if web < 0 ∨ (c.seeds.length : Int) ≤ web then 7 else c.atE now := by
  unfold RefV.atE CliV.atE
  rw [h.now, h.webs, List.length_map]
  by_cases g : web < 0 ∨ (c.seeds.length : Int) ≤ web
  · rw [if_pos g, if_pos (by omega)]
  · rw [if_neg g]
    by_cases g2 : now < c.now ∨ 1000000000 < now
    · rw [if_pos g2, if_pos (by omega)]
    · rw [if_neg g2, if_neg (by omega)]
theorem Alk.atz {N : Int} {c : CliV} {f : Nat → Option Nat} {r : RefV} (h : Alk N c f r) (now : Int) : r.atE now 0 = c.atE now := by
  have := h.few
  rw [h.at0, if_neg (by omega)]
theorem Alk.nextEE {N : Int} {c : CliV} {f : Nat → Option Nat} {r : RefV} (h : Alk N c f r) (now : Int) : r.nextE now = c.nextE now := by
  unfold RefV.nextE CliV.nextE
  rw [h.atz, h.someE, h.idxE]
theorem Alk.getW {N : Int} {c : CliV} {f : Nat → Option Nat} {r : RefV} (h : Alk N c f r) {k : Nat} {s : SeedV} (hs : c.seeds[k]? = some s) : r.webs[k]? = some (toW s) := by
  rw [h.webs, List.getElem?_map, hs]; rfl
theorem Alk.tookEE {N : Int} {c : CliV} {f : Nat → Option Nat} {r : RefV} (h : Alk N c f r) (now web : Int) : r.tookE now web = c.tookE now web := by
  unfold RefV.tookE CliV.tookE
  rw [h.at0]
  by_cases g : web < 0 ∨ (c.seeds.length : Int) ≤ web
  · rw [if_pos g, if_pos (by decide), if_pos g]
  · rw [if_neg g, if_neg g]
    by_cases g2 : c.atE now ≠ 0
    · rw [if_pos g2, if_pos g2]
    · rw [if_neg g2, if_neg g2]
      have hlt : web.toNat < c.seeds.length := by omega
      have hs := List.getElem?_eq_getElem hlt
      rw [h.getW hs, hs]
      have := (h.okay _ (List.getElem_mem hlt)).cnt0
      simp only
      cases hu : c.seeds[web.toNat].under with
      | true =>
        rw [hu] at this
        rw [if_neg (by simpa using this), if_pos rfl]
      | false =>
        rw [hu] at this
        rw [if_pos (by simpa using this)]
        rfl
theorem Alk.wantEE {N : Int} {c : CliV} {f : Nat → Option Nat} {r : RefV} (h : Alk N c f r) (piece : Int) : r.wantE piece = c.wantE piece := by
  unfold RefV.wantE CliV.wantE
  rw [h.lw]
theorem giveOf_eq (f : Nat → Option Nat) (i : Nat) (web : Int) (hw : 0 ≤ web) : giveOf f i = web ↔ f i = some web.toNat := by
  unfold giveOf
  cases f i with
  | none => simp; omega
  | some k => simp; omega
theorem Alk.badEE {N : Int} {c : CliV} {f : Nat → Option Nat} {r : RefV} (h : Alk N c f r) (now web piece : Int) : r.badE now web piece = c.badE f now web piece := by
  unfold RefV.badE CliV.badE
  rw [h.lw, h.at0]
  by_cases g : piece < 0 ∨ (c.n : Int) ≤ piece
  · rw [if_pos g, if_pos (show web < 0 ∨ (c.seeds.length : Int) ≤ web ∨ piece < 0 ∨ (c.n : Int) ≤ piece from .inr (.inr g))]
  · rw [if_neg g]
    by_cases g1 : web < 0 ∨ (c.seeds.length : Int) ≤ web
    · have hB : web < 0 ∨ (c.seeds.length : Int) ≤ web ∨ piece < 0 ∨ (c.n : Int) ≤ piece := by omega
      rw [if_pos g1, if_pos hB]
      rfl
    · have hB : ¬ (web < 0 ∨ (c.seeds.length : Int) ≤ web ∨ piece < 0 ∨ (c.n : Int) ≤ piece) := by omega
      rw [if_neg g1, if_neg hB]
      by_cases g2 : c.atE now ≠ 0
      · rw [if_pos g2, if_pos g2]
      · rw [if_neg g2, if_neg g2, h.gave _ (by omega)]
        have := giveOf_eq f piece.toNat web (by omega)
        by_cases g3 : f piece.toNat = some web.toNat
        · rw [if_pos g3, if_pos (by rw [this.2 g3])]
        · rw [if_neg g3, if_neg (fun q => g3 (this.1 (Option.some.inj q)))]
theorem least_map (now : Int) : ∀ (S : List SeedV) (b : Int), (∀ s ∈ S, decide ((toW s).cnt = 0) = !s.under) → (S.map toW).foldl (leastStepW now) b = S.foldl (leastStep now) b
  | [], _, _ => rfl
  | s :: S, b, h => by
    have h1 := h s (List.mem_cons_self ..)
    have h2 : leastStepW now b (toW s) = leastStep now b s := by
      unfold leastStepW leastStep
      have hm : max now (toW s).til = max s.after now := by show max now s.after = _; omega
      have ho : (toW s).out = s.out := rfl
      rw [hm, ho]
      cases hu : s.under with
      | true =>
        rw [hu] at h1
        have h3 : ¬ (toW s).cnt = 0 := by simpa using h1
        rw [if_neg (fun q => h3 q.2.1), if_neg (fun q => by cases q.2.1)]
      | false =>
        rw [hu] at h1
        have h3 : (toW s).cnt = 0 := by simpa using h1
        simp only [h3, true_and]
    rw [List.map_cons, List.foldl_cons, List.foldl_cons, h2, least_map now S _ (fun t ht => h t (List.mem_cons_of_mem _ ht))]
theorem Alk.leastE {N : Int} {c : CliV} {f : Nat → Option Nat} {r : RefV} (h : Alk N c f r) (now : Int) : leastW now r.webs = leastOf now c.seeds := by
  unfold leastW leastOf
  rw [h.webs]
  exact least_map now _ _ (fun s hs => (h.okay s hs).cnt0)
theorem Alk.whenEE {N : Int} {c : CliV} {f : Nat → Option Nat} {r : RefV} (h : Alk N c f r) (now : Int) : r.whenE now = c.whenE now := by
  unfold RefV.whenE CliV.whenE
  have hs := h.someE
  have hz := h.sane.1
  rw [h.atz, h.leastE]
  by_cases g2 : c.atE now ≠ 0
  · rw [if_pos g2, if_pos g2]
  · rw [if_neg g2, if_neg g2]
    have h3 : r.best.2 = 0 ↔ c.best.isSome = false := by
      rw [← hs, decide_eq_false_iff_not]
      omega
    by_cases g3 : c.best.isSome = false ∨ leastOf now c.seeds < 0 ∨ 1000000000 < leastOf now c.seeds
    · rw [if_pos g3, if_pos (by rcases g3 with q | q | q; exact .inr (.inr (h3.2 q)); exact .inl q; exact .inr (.inl q))]
    · rw [if_neg g3, if_neg (fun q => g3 (by rcases q with q | q | q; exact .inr (.inl q); exact .inr (.inr q); exact .inl (h3.1 q)))]
theorem Alk.outE {N : Int} {c : CliV} {f : Nat → Option Nat} {r : RefV} (h : Alk N c f r) (web : Int) : outW r.webs web = outR c.seeds web := by
  unfold outW outR
  rw [h.webs, List.length_map, List.getElem?_map]
  by_cases g : web < 0 ∨ (c.seeds.length : Int) ≤ web
  · rw [if_pos g, if_pos g]
  · rw [if_neg g, if_neg g]
    cases c.seeds[web.toNat]? <;> rfl
theorem Alk.waitE {N : Int} {c : CliV} {f : Nat → Option Nat} {r : RefV} (h : Alk N c f r) (web : Int) : waitW r.webs web = waitR c.seeds web := by
  unfold waitW waitR
  rw [h.webs, List.length_map, List.getElem?_map]
  by_cases g : web < 0 ∨ (c.seeds.length : Int) ≤ web
  · rw [if_pos g, if_pos g]
  · rw [if_neg g, if_neg g]
    cases c.seeds[web.toNat]? <;> rfl
theorem Alk.wantedE {N : Int} {c : CliV} {f : Nat → Option Nat} {r : RefV} (h : Alk N c f r) : fieldB (r.wantTo r.wanted.length) = c.wantUpto c.n := by
  obtain ⟨h1, h2⟩ := wantUpto_ok h.fld c.n (Nat.le_refl _)
  have hl : (r.wantTo r.wanted.length).length = c.n := by unfold RefV.wantTo; rw [List.length_map, List.length_range, h.lw]
  obtain ⟨k1, k2⟩ := fieldB_ok (r.wantTo r.wanted.length)
  rw [hl] at k1
  refine FieldOf.ext k1 h1 (fun i hi => ?_)
  rw [k2, h2, h.want, List.getD_eq_getElem?_getD]
  unfold RefV.wantTo
  rw [List.getElem?_map, List.getElem?_range (by rw [h.lw]; exact hi), Option.map_some, Option.getD_some, h.webs, taken_fly]
  simp [hi]
theorem under_map : ∀ (S : List SeedV), (∀ s ∈ S, decide ((toW s).cnt = 0) = !s.under) → underW (S.map toW) = underOf S
  | [], _ => rfl
  | s :: S, h => by
    have h1 := h s (List.mem_cons_self ..)
    have ih := under_map S (fun t ht => h t (List.mem_cons_of_mem _ ht))
    unfold underW underOf at ih ⊢
    rw [List.map_cons, List.filter_cons, List.filter_cons]
    cases hu : s.under with
    | true =>
      rw [hu] at h1
      have h3 : ¬ (toW s).cnt = 0 := by simpa using h1
      rw [if_pos (by simpa using h3), if_pos rfl, List.map_cons, List.map_cons, ih]
      congr 1
      unfold toW
      rw [hu]
      rfl
    | false =>
      rw [hu] at h1
      have h3 : (toW s).cnt = 0 := by simpa using h1
      rw [if_neg (by simpa using h3), if_neg (by simp), ih]
theorem sorted_one : ∀ (U V : List (Int × Int)), U.Perm V → U.Pairwise (fun x y => x.1 ≤ y.1) → V.Pairwise (fun x y => x.1 ≤ y.1) → (∀ a ∈ U, ∀ b ∈ U, a.1 = b.1 → a = b) → U = V
  | [], V, hp, _, _, _ => hp.nil_eq
  | u :: U, [], hp, _, _, _ => by have := hp.length_eq; simp at this
  | u :: U, v :: V, hp, hu, hv, hd => by
    have h1 : v ∈ u :: U := hp.mem_iff.2 (List.mem_cons_self ..)
    have h2 : u ∈ v :: V := hp.mem_iff.1 (List.mem_cons_self ..)
    have e : u = v := by
      refine hd u (List.mem_cons_self ..) v h1 ?_
      have l1 : u.1 ≤ v.1 := by
        rcases List.mem_cons.1 h1 with q | q
        · rw [q]; exact Int.le_refl _
        · exact (List.pairwise_cons.1 hu).1 v q
      have l2 : v.1 ≤ u.1 := by
        rcases List.mem_cons.1 h2 with q | q
        · rw [q]; exact Int.le_refl _
        · exact (List.pairwise_cons.1 hv).1 u q
      omega
    subst e
    rw [sorted_one U V hp.cons_inv (List.pairwise_cons.1 hu).2 (List.pairwise_cons.1 hv).2 (fun a ha b hb => hd a (List.mem_cons_of_mem _ ha) b (List.mem_cons_of_mem _ hb))]
theorem Alk.underE {N : Int} {c : CliV} {f : Nat → Option Nat} {r : RefV} (h : Alk N c f r) {U V : List (Int × Int)} (hU : U.Perm (underOf c.seeds)) (sU : U.Pairwise (fun x y => x.1 ≤ y.1)) (hV : V.Perm (underW r.webs)) (sV : V.Pairwise (fun x y => x.1 ≤ y.1)) : U = V := by
  rw [h.webs, under_map _ (fun s hs => (h.okay s hs).cnt0)] at hV
  refine sorted_one U V (hU.trans hV.symm) sU sV (fun a ha b hb e => ?_)
  have ga : ∀ x, x ∈ U → ∃ (i : Nat) (s : SeedV), c.seeds[i]? = some s ∧ s.under = true ∧ x = (s.frm, s.cnt) := by
    intro x hx
    have := hU.mem_iff.1 hx
    unfold underOf at this
    obtain ⟨s, hs, rfl⟩ := List.mem_map.1 this
    obtain ⟨h1, h2⟩ := List.mem_filter.1 hs
    obtain ⟨i, hi⟩ := List.getElem?_of_mem h1
    exact ⟨i, s, hi, h2, rfl⟩
  obtain ⟨i, s, hi, hs, rfl⟩ := ga a ha
  obtain ⟨j, t, hj, ht, rfl⟩ := ga b hb
  simp only at e
  by_cases g : i = j
  · subst g
    rw [hi] at hj
    cases hj
    rfl
  · have k1 := (h.okay s (List.mem_of_getElem? hi)).cnt hs
    have k2 := (h.okay t (List.mem_of_getElem? hj)).cnt ht
    rcases h.apart i j s t g hi hj hs ht with q | q <;> omega
end Go.Proofs.YtnhgichiedninaaGreatDoor
