/-
  Several texts in one, in their build order. The walk of New (package web) when something is wrong. Conditions: the texts lie as told; the field is one. How the reference's client of web seeds lies in memory. Plain facts over the program. No condition. The walks of taken and at (the reference's client of web seeds). Conditions: the client lies as told.
-/
import Derived.Test.YtnhgichiedninaaGreatDoorM28
import Derived.Test.YtnhgichiedninaaGreatDoorM10
namespace Go.Proofs.YtnhgichiedninaaGreatDoor
set_option linter.unusedSimpArgs false
set_option linter.unusedVariables false
open Go.RowKit Go.Shelf

/-- What New answers. -/
def newE (p : List ByteArray) (run : Int) : Int := if p.all validU = false then 1 else if run < 1 ∨ 16 < run then 7 else if p.length < 1 ∨ 20 < p.length then 11 else if (List.range p.length).any (dupIn p) then 6 else 0
set_option maxRecDepth 100000 in
set_option maxHeartbeats 8000000 in
theorem cnew_no (a : Option Addr) (cp : Nat) (p : List ByteArray) (n : Nat) (s : ByteArray) (run : Int) (w : World) (h : StrsAt w a cp p) (hn : n ≤ 4096) (hf : FieldOf n s.data.toList) (hno : newE p run ≠ 0) :
    Calls Tryz.prog 8 #[.slice a p.length cp, .int .i64 n, .string s, .int .i64 run] w fun e w' => e = .returned (.tuple #[.pointer none, .int .i64 (newE p run)]) ∧ New w w' := by
  have HCO := hid (conU_any a cp p w h)
  have HBV := hid (bvalid_ok n s w hf hn)
  have hpc := h.room; have hpm := h.cap
  unfold maxLen at hpm
  unfold newE at hno ⊢
  by_cases g1 : p.all validU = false
  · rw [if_pos g1]
    rw [g1] at HCO
    clear h hno g1
    go_enter Tryz.func8, Tryz.ntmps8
    go_wp2_with (first | (go_at_call 31; refine HCO.out.mono ?_; rintro e w1 ⟨rfl, rfl⟩) | fail)
    go_wp2
    exact bodyPost_ret (v := .tuple #[.pointer none, .int .i64 1]) (by simp [results, Tryz.results8, go_sem]) rfl ⟨rfl, Mod.refl _ _⟩
  rw [if_neg g1] at hno ⊢
  have g1' : p.all validU = true := by simpa using g1
  rw [g1'] at HCO
  clear g1
  by_cases g2 : run < 1 ∨ 16 < run
  · rw [if_pos g2]
    clear h hno g1'
    rcases g2 with g2 | g2
    all_goals
      go_enter Tryz.func8, Tryz.ntmps8
      go_wp2_with (first | (go_at_call 31; refine HCO.out.mono ?_; rintro e w1 ⟨rfl, rfl⟩) | fail)
      refine HBV.out.mono ?_
      rintro e w1 ⟨rfl, n1⟩
      go_wp2
      exact bodyPost_ret (v := .tuple #[.pointer none, .int .i64 7]) (by simp [results, Tryz.results8, go_sem]) rfl ⟨rfl, n1⟩
  rw [if_neg g2] at hno ⊢
  by_cases g3 : p.length < 1 ∨ 20 < p.length
  · rw [if_pos g3]
    clear h hno g1'
    rcases g3 with g3 | g3
    all_goals
      go_enter Tryz.func8, Tryz.ntmps8
      go_wp2_with (first | (go_at_call 31; refine HCO.out.mono ?_; rintro e w1 ⟨rfl, rfl⟩) | fail)
      refine HBV.out.mono ?_
      rintro e w1 ⟨rfl, n1⟩
      go_wp2
      exact bodyPost_ret (v := .tuple #[.pointer none, .int .i64 11]) (by simp [results, Tryz.results8, go_sem]) rfl ⟨rfl, n1⟩
  rw [if_neg g3] at hno ⊢
  by_cases g4 : (List.range p.length).any (dupIn p) = true
  · rw [if_pos g4]
    obtain ⟨b1, o1, rfl, hb1, hc1⟩ := h.get (by omega)
    have HC1 := hid hc1
    have HD : Hid (∃ k, k < p.length ∧ dupIn p k = true) := hid (by
      rw [List.any_eq_true] at g4
      obtain ⟨k, hk, hd⟩ := g4
      exact ⟨k, List.mem_range.1 hk, hd⟩)
    obtain ⟨i0, hi, hz0, hz1, hz2⟩ := info_parts info_ptr
    clear h hc1 hno g1' g4
    go_enter Tryz.func8, Tryz.ntmps8
    go_wp2_with (first | (go_at_call 31; refine HCO.out.mono ?_; rintro e w1 ⟨rfl, rfl⟩) | fail)
    refine HBV.out.mono ?_
    rintro e w1 ⟨rfl, n1⟩
    have N1 := hid n1
    clear n1
    have hmm := @run_makeMap Tryz.prog
    go_wp2_with fail
    have HN0 : Hid (NewAt w ((w1.alloc (.map #[] 0)).alloc (.cells #[.slice none 0 0, .int .i64 n, .string s, .int .i64 run, .int .i64 0, .map (some w1.heap.size)] 78)) (w1.heap.size + 1) w1.heap.size n s run (.slice none 0 0) []) := hid
      ⟨Blk.newAt (by simp), World.ownsRow_nil _ _ _ _, by simp, by simp, by simp, (MapL.made w1 _ rfl).new ((Mod.refl _ _).alloc _), ⟨by have := N1.out.size; omega, N1.out.size⟩, (N1.out.alloc _).alloc _⟩
    clear hmm
    go_loopw [59] (fun x wr => ∃ (k : Nat) (v : Value) (ps : List Nat), x = .int .i64 k ∧ k ≤ p.length ∧ ps.length = k ∧ (∀ j, j < k → dupIn p j = false) ∧ NewAt w wr (w1.heap.size + 1) w1.heap.size n s run v ps) (fun x _ => p.length - (intOf x).toNat)
    case atStart => exact ⟨0, _, _, rfl, by omega, rfl, by intros; omega, HN0.out⟩
    case round =>
      obtain ⟨k, v, ps, rfl, hk, hps, hb, hA⟩ := hrel
      have HA := hid hA
      have HB := hid hb
      clear hb
      by_cases hlt : k < p.length
      · have g0 := New.cellv hA.new' (HC1.out k hlt)
        have gl : b1 < wr.heap.size := World.block_lt_of_cell? _ _ g0
        have HCT := Tryz.slices_Contains_string b1 o1 k cp p p[k] wr (by omega) (by omega) (fun j hj => by rw [List.getD_eq_getElem?_getD, List.getElem?_eq_getElem hj]; exact New.cellv hA.new' (HC1.out j hj))
        have hde : dupIn p k = Lib.containsS (p.take k) p[k] := by
          unfold dupIn
          rw [List.getElem?_eq_getElem hlt]
        rw [← hde] at HCT
        clear hde
        cases hdk : dupIn p k with
        | true =>
          rw [hdk] at HCT
          have HCT := hid HCT
          obtain ⟨t, ht⟩ : ∃ t, t = p[k] := ⟨_, rfl⟩
          rw [← ht] at g0 HCT
          clear hA hdk ht
          go_wp2_with fail
          refine HCT.out.mono ?_
          rintro e w2 ⟨rfl, rfl⟩
          go_wp2
          exact bodyPost_ret (v := .tuple #[.pointer none, .int .i64 6]) (by simp [results, Tryz.results8, go_sem]) rfl ⟨rfl, HA.out.new'⟩
        | false =>
          rw [hdk] at HCT
          have HCT := hid HCT
          have r0 : wr.cell? ⟨w1.heap.size + 1, 0, none⟩ = some v := hA.row.cellv 0 rfl
          have rl := hA.row.lt; have rf := hA.row.frz 0
          obtain ⟨t, ht⟩ : ∃ t, t = p[k] := ⟨_, rfl⟩
          rw [← ht] at g0 HCT
          have HDK := hid hdk
          clear hA hdk ht
          go_wp2_with fail
          refine HCT.out.mono ?_
          rintro e w2 ⟨rfl, rfl⟩
          go_wp2_with (at_builtin; refine wpList_append_own_at _ rfl _ _ 76 rfl w.heap.size 80 i0 _ 1 8 Tryz.underlying76 hi hz0 hz1 hz2 rfl (by decide) v k (ps.map ptrV) rfl ?ow ⟨w2.heap.size + 1, 0, none⟩ 1 1 [ptrV w2.heap.size] rfl rfl ?hn ?h1 ?h63 ?hby ?hba ?_)
          case ow =>
            have := HA.out.own
            rw [hps] at this
            exact ownsZ_new this (((Mod.refl _ _).alloc _).alloc _)
          case hn =>
            intro j u hj
            have hadd : ∀ i, (⟨w2.heap.size + 1, 0, none⟩ : Addr).add i = ⟨w2.heap.size + 1, 0 + i, none⟩ := fun i => by unfold Addr.add; split <;> simp_all
            rw [hadd]
            match j, hj with
            | 0, hj => simp at hj; subst hj; exact (Blk.newAt (by simp)).cellv 0 rfl
          case h1 => intro u hu; simp at hu; subst hu; rfl
          case h63 => unfold maxLen; omega
          case hby => omega
          case hba => have := HA.out.new'.size; simp; omega
          intro o4 w4 r4 g4 hne hob
          obtain ⟨sg, sc, rfl⟩ : ∃ sg sc, o4 = .slice sg (k + 1) sc := by
            rcases r4.2 with ⟨e, -⟩ | ⟨g, cap, cur, e, -⟩
            · exact absurd e hne
            · exact ⟨_, _, e⟩
          have hP := HA.out.push hps r4 g4
          have HP := hid hP
          have hq := HA.out.rowAt g4
          have q0 : w4.cell? ⟨w1.heap.size + 1, 0, none⟩ = some v := hq.cellv 0 rfl
          have q1 := hq.lt; have q2 := hq.frz 0
          clear hP r4 g4 hq
          go_wp2
          refine ⟨⟨k + 1, _, ps ++ [w2.heap.size], rfl, by omega, by simp [hps], fun j hj => ?_, HP.out⟩, ?_⟩
          · rcases Nat.lt_succ_iff_lt_or_eq.1 hj with q | q
            · exact HB.out j q
            · rw [q]; exact HDK.out
          · simp [intOf]; omega
      · exfalso
        obtain ⟨j, hj, hd⟩ := HD.out
        rw [HB.out j (by omega)] at hd
        cases hd
  · rw [if_neg g4] at hno
    exact absurd rfl hno
theorem new_ok {p : List ByteArray} {run : Int} (h : newE p run = 0) : p.all validU = true ∧ (1 ≤ run ∧ run ≤ 16) ∧ (1 ≤ p.length ∧ p.length ≤ 20) ∧ ∀ k, k < p.length → dupIn p k = false := by
  unfold newE at h
  by_cases g1 : p.all validU = false
  · rw [if_pos g1] at h; cases h
  rw [if_neg g1] at h
  by_cases g2 : run < 1 ∨ 16 < run
  · rw [if_pos g2] at h; cases h
  rw [if_neg g2] at h
  by_cases g3 : p.length < 1 ∨ 20 < p.length
  · rw [if_pos g3] at h; cases h
  rw [if_neg g3] at h
  by_cases g4 : (List.range p.length).any (dupIn p) = true
  · rw [if_pos g4] at h; cases h
  refine ⟨by simpa using g1, by omega, by omega, fun k hk => ?_⟩
  cases hd : dupIn p k with
  | false => rfl
  | true => exact absurd (List.any_eq_true.2 ⟨k, List.mem_range.2 hk, hd⟩) g4
end Go.Proofs.YtnhgichiedninaaGreatDoor

namespace Go.Proofs.YtnhgichiedninaaGreatDoor
set_option linter.unusedSimpArgs false
set_option linter.unusedVariables false
open Go.RowKit Go.Shelf

/-- The first cells of block g are xs, of the type t; they may be written. -/
def RowAt (w : World) (g : Nat) (t : TypeId) (xs : List Value) : Prop := ∃ cs, Blk w g cs t ∧ ∀ (i : Nat) v, xs[i]? = some v → cs[i]? = some v
theorem RowAt.lt {w : World} {g : Nat} {t : TypeId} {xs : List Value} (h : RowAt w g t xs) : g < w.heap.size := by obtain ⟨cs, hb, -⟩ := h; exact hb.lt
theorem RowAt.cell {w : World} {g : Nat} {t : TypeId} {xs : List Value} (h : RowAt w g t xs) {i : Nat} {v : Value} (hi : xs[i]? = some v) : w.cell? ⟨g, i, none⟩ = some v := by
  obtain ⟨cs, hb, hc⟩ := h
  exact hb.cellv i (hc i v hi)
theorem RowAt.frz {w : World} {g : Nat} {t : TypeId} {xs : List Value} (h : RowAt w g t xs) (i : Nat) : w.frozen? ⟨g, i, none⟩ = false := by
  obtain ⟨cs, hb, -⟩ := h
  exact hb.frz i
theorem RowAt.mod {S : Nat → Prop} {w w' : World} {g : Nat} {t : TypeId} {xs : List Value} (h : RowAt w g t xs) (hm : Mod S w w') (hn : ¬ S g) : RowAt w' g t xs := by
  obtain ⟨cs, hb, hc⟩ := h
  exact ⟨cs, hm.blk hb hn, hc⟩
theorem RowAt.new {w w' : World} {g : Nat} {t : TypeId} {xs : List Value} (h : RowAt w g t xs) (hm : New w w') : RowAt w' g t xs := h.mod hm (fun q => q)
theorem RowAt.set {w : World} {g : Nat} {t : TypeId} {xs : List Value} (h : RowAt w g t xs) {i : Nat} (hi : i < xs.length) (v : Value) : RowAt (w.setCell ⟨g, i, none⟩ v) g t (xs.set i v) := by
  obtain ⟨cs, hb, hc⟩ := h
  refine ⟨cs.setIfInBounds i v, hb.set i v, fun j u hj => ?_⟩
  have hil : i < cs.size := (Array.getElem?_eq_some_iff.1 (hc i _ (List.getElem?_eq_getElem hi))).1
  rw [List.getElem?_set] at hj
  rw [Array.getElem?_setIfInBounds]
  by_cases e : i = j
  · rw [if_pos e, if_pos (by omega)] at hj
    rw [if_pos e, if_pos (by omega)]
    exact hj
  · rw [if_neg e] at hj
    rw [if_neg e]
    exact hc j u hj
theorem RowAt.other {w : World} {g : Nat} {t : TypeId} {xs : List Value} {p : Addr} {u : Value} (hp : g ≠ p.block) (h : RowAt w g t xs) : RowAt (w.setCell p u) g t xs := by
  obtain ⟨cs, hb, hc⟩ := h
  exact ⟨cs, Blk.other hp hb, hc⟩
theorem RowAt.ne {w : World} {g g' : Nat} {t t' : TypeId} {xs : List Value} {cs' : Array Value} (h : RowAt w g t xs) (h' : Blk w g' cs' t') (ht : t ≠ t') : g ≠ g' := by
  obtain ⟨cs, hb, -⟩ := h
  exact blk_ne hb h' ht
theorem RowAt.ne2 {w : World} {g g' : Nat} {t t' : TypeId} {xs xs' : List Value} (h : RowAt w g t xs) (h' : RowAt w g' t' xs') (ht : t ≠ t') : g ≠ g' := by
  obtain ⟨cs', hb', -⟩ := h'
  exact h.ne hb' ht

structure WebV where
  frm : Int
  cnt : Int
  failed : Int
  til : Int
  bad : Int
  out : Bool
structure RefV where
  webs : List WebV
  wanted : List Bool
  gave : List Int
  run : Int
  now : Int
def webCells (v : WebV) : List Value := [.int .i64 v.frm, .int .i64 v.cnt, .int .i64 v.failed, .int .i64 v.til, .int .i64 v.bad, .bool v.out]
def webRow (L : List WebV) : List Value := L.flatMap webCells
theorem webRow_app (U V : List WebV) : webRow (U ++ V) = webRow U ++ webRow V := by unfold webRow; rw [List.flatMap_append]
theorem webRow_len (U : List WebV) : (webRow U).length = U.length * 6 := by
  induction U with
  | nil => rfl
  | cons x U ih => show (webCells x ++ webRow U).length = _; rw [List.length_append, ih]; simp [webCells]; omega
theorem web_split {U : List WebV} {i : Nat} {s : WebV} (h : U[i]? = some s) : U = U.take i ++ s :: U.drop (i + 1) := by
  have hi := (List.getElem?_eq_some_iff.1 h).1
  have e : U[i] = s := (List.getElem?_eq_some_iff.1 h).2
  rw [← e, List.getElem_cons_drop, List.take_append_drop]
theorem webRow_at {U : List WebV} {i j : Nat} {s : WebV} (h : U[i]? = some s) (hj : j < 6) : (webRow U)[i * 6 + j]? = (webCells s)[j]? := by
  have hi := (List.getElem?_eq_some_iff.1 h).1
  have hlen : (webRow (U.take i)).length = i * 6 := by rw [webRow_len, List.length_take]; omega
  rw [web_split h, webRow_app, List.getElem?_append_right (by rw [hlen]; omega), hlen, show i * 6 + j - i * 6 = j by omega]
  show (webCells s ++ webRow _)[j]? = _
  rw [List.getElem?_append_left (by simp [webCells]; omega)]
theorem webRow_set {U : List WebV} {i j : Nat} {s s' : WebV} {x : Value} (h : U[i]? = some s) (hj : j < 6) (hx : (webCells s).set j x = webCells s') : (webRow U).set (i * 6 + j) x = webRow (U.set i s') := by
  have hi := (List.getElem?_eq_some_iff.1 h).1
  have hlen : (webRow (U.take i)).length = i * 6 := by rw [webRow_len, List.length_take]; omega
  have hset : U.set i s' = U.take i ++ s' :: U.drop (i + 1) := by
    rw [List.set_eq_take_append_cons_drop, if_pos hi]
  rw [hset]
  conv => lhs; rw [web_split h]
  rw [webRow_app, webRow_app, List.set_append_right _ _ (by rw [hlen]; omega), hlen, show i * 6 + j - i * 6 = j by omega]
  congr 1
  show (webCells s ++ webRow _).set j x = webCells s' ++ webRow _
  rw [List.set_append_left _ _ (by simp [webCells]; omega), hx]
/-- The reference's client r lies in block R; its seeds in WB, what is wanted in DB, who gave in GB. -/
structure RefAt (w : World) (R WB wc DB dc GB gc : Nat) (r : RefV) : Prop where
  row : Blk w R #[.slice (some ⟨WB, 0, none⟩) r.webs.length wc, .slice (some ⟨DB, 0, none⟩) r.wanted.length dc, .slice (some ⟨GB, 0, none⟩) r.gave.length gc, .int .i64 r.run, .int .i64 r.now] 94
  webs : RowAt w WB 98 (webRow r.webs)
  want : RowAt w DB 4 (r.wanted.map Value.bool)
  gave : RowAt w GB 3 (r.gave.map (Value.int .i64))
  caps : (r.webs.length ≤ wc ∧ wc ≤ maxLen) ∧ (r.wanted.length ≤ dc ∧ dc ≤ maxLen) ∧ (r.gave.length ≤ gc ∧ gc ≤ maxLen)
  few : (1 ≤ r.webs.length ∧ r.webs.length ≤ 20) ∧ (1 ≤ r.wanted.length ∧ r.wanted.length ≤ 60) ∧ r.gave.length = r.wanted.length
  rng : ∀ v ∈ r.webs, 0 ≤ v.frm ∧ 0 ≤ v.cnt ∧ v.frm + v.cnt ≤ r.wanted.length
  nums : 1 ≤ r.run ∧ r.run ≤ 16 ∧ 0 ≤ r.now ∧ r.now ≤ 1000000000
def RefT (R WB DB GB k : Nat) : Prop := k = R ∨ k = WB ∨ k = DB ∨ k = GB
theorem RefAt.apart {w : World} {R WB wc DB dc GB gc : Nat} {r : RefV} (h : RefAt w R WB wc DB dc GB gc r) : WB ≠ R ∧ DB ≠ R ∧ GB ≠ R ∧ WB ≠ DB ∧ WB ≠ GB ∧ DB ≠ GB :=
  ⟨h.webs.ne h.row (by decide), h.want.ne h.row (by decide), h.gave.ne h.row (by decide), h.webs.ne2 h.want (by decide), h.webs.ne2 h.gave (by decide), h.want.ne2 h.gave (by decide)⟩
theorem RefAt.below {w : World} {R WB wc DB dc GB gc : Nat} {r : RefV} (h : RefAt w R WB wc DB dc GB gc r) : ∀ k, w.heap.size ≤ k → ¬ RefT R WB DB GB k := by
  intro k hk q
  have h1 := h.row.lt; have h2 := h.webs.lt; have h3 := h.want.lt; have h4 := h.gave.lt
  rcases q with q | q | q | q <;> omega
theorem RefAt.mod {S : Nat → Prop} {w w' : World} {R WB wc DB dc GB gc : Nat} {r : RefV} (h : RefAt w R WB wc DB dc GB gc r) (hm : Mod S w w') (hn : ∀ k, RefT R WB DB GB k → ¬ S k) : RefAt w' R WB wc DB dc GB gc r :=
  ⟨hm.blk h.row (hn _ (.inl rfl)), h.webs.mod hm (hn _ (.inr (.inl rfl))), h.want.mod hm (hn _ (.inr (.inr (.inl rfl)))), h.gave.mod hm (hn _ (.inr (.inr (.inr rfl)))), h.caps, h.few, h.rng, h.nums⟩
theorem RefAt.new {w w' : World} {R WB wc DB dc GB gc : Nat} {r : RefV} (h : RefAt w R WB wc DB dc GB gc r) (hm : New w w') : RefAt w' R WB wc DB dc GB gc r := h.mod hm (fun _ _ q => q)
theorem RefAt.time {w : World} {R WB wc DB dc GB gc : Nat} {r : RefV} (h : RefAt w R WB wc DB dc GB gc r) {t : Int} (ht : 0 ≤ t ∧ t ≤ 1000000000) : RefAt (w.setCell ⟨R, 4, none⟩ (.int .i64 t)) R WB wc DB dc GB gc { r with now := t } := by
  obtain ⟨a1, a2, a3, -⟩ := h.apart
  exact ⟨(h.row.set 4 _).row (by simp), h.webs.other a1, h.want.other a2, h.gave.other a3, h.caps, h.few, h.rng, h.nums.1, h.nums.2.1, ht⟩
theorem RefAt.web {w w' : World} {R WB wc DB dc GB gc : Nat} {r : RefV} (h : RefAt w R WB wc DB dc GB gc r) {k : Nat} {v : WebV} (hw : RowAt w' WB 98 (webRow (r.webs.set k v))) (hm : Mod (fun q => q = WB) w w') (hv : 0 ≤ v.frm ∧ 0 ≤ v.cnt ∧ v.frm + v.cnt ≤ r.wanted.length) : RefAt w' R WB wc DB dc GB gc { r with webs := r.webs.set k v } := by
  obtain ⟨a1, a2, a3, a4, a5, a6⟩ := h.apart
  refine ⟨by have := hm.blk h.row (fun e => a1 e.symm); simpa using this, hw, h.want.mod hm (fun e => a4 e.symm), h.gave.mod hm (fun e => a5 e.symm), by simpa using h.caps, by simpa using h.few, fun u hu => ?_, h.nums⟩
  rcases List.mem_or_eq_of_mem_set hu with q | q
  · exact h.rng u q
  · rw [q]; exact hv
theorem RefAt.wish {w : World} {R WB wc DB dc GB gc : Nat} {r : RefV} (h : RefAt w R WB wc DB dc GB gc r) {i : Nat} (hi : i < r.wanted.length) (b : Bool) : RefAt (w.setCell ⟨DB, i, none⟩ (.bool b)) R WB wc DB dc GB gc { r with wanted := r.wanted.set i b } := by
  obtain ⟨a1, a2, a3, a4, a5, a6⟩ := h.apart
  refine ⟨by have := Blk.other (p := ⟨DB, i, none⟩) (u := .bool b) (fun e => a2 e.symm) h.row; simpa using this, h.webs.other a4, ?_, h.gave.other (fun e => a6 e.symm), by simpa using h.caps, by simpa using h.few, by simpa using h.rng, h.nums⟩
  have := h.want.set (i := i) (by simpa using hi) (.bool b)
  rwa [← List.map_set] at this
theorem RefAt.give {w : World} {R WB wc DB dc GB gc : Nat} {r : RefV} (h : RefAt w R WB wc DB dc GB gc r) {i : Nat} (hi : i < r.wanted.length) (n : Int) : RefAt (w.setCell ⟨GB, i, none⟩ (.int .i64 n)) R WB wc DB dc GB gc { r with gave := r.gave.set i n } := by
  obtain ⟨a1, a2, a3, a4, a5, a6⟩ := h.apart
  refine ⟨by have := Blk.other (p := ⟨GB, i, none⟩) (u := .int .i64 n) (fun e => a3 e.symm) h.row; simpa using this, h.webs.other a5, h.want.other a6, ?_, by simpa using h.caps, by simpa using h.few, h.rng, h.nums⟩
  have := h.gave.set (i := i) (by have := h.few.2.2; simp; omega) (.int .i64 n)
  rwa [← List.map_set] at this
/-- The cells of a seed. -/
theorem RefAt.seed {w : World} {R WB wc DB dc GB gc : Nat} {r : RefV} (h : RefAt w R WB wc DB dc GB gc r) {k : Nat} {v : WebV} (hk : r.webs[k]? = some v) :
    w.cell? ⟨WB, k * 6, none⟩ = some (.int .i64 v.frm) ∧ w.cell? ⟨WB, k * 6 + 1, none⟩ = some (.int .i64 v.cnt) ∧ w.cell? ⟨WB, k * 6 + 2, none⟩ = some (.int .i64 v.failed) ∧ w.cell? ⟨WB, k * 6 + 3, none⟩ = some (.int .i64 v.til) ∧ w.cell? ⟨WB, k * 6 + 4, none⟩ = some (.int .i64 v.bad) ∧ w.cell? ⟨WB, k * 6 + 5, none⟩ = some (.bool v.out) :=
  ⟨h.webs.cell (i := k * 6 + 0) (webRow_at hk (by omega)), h.webs.cell (webRow_at hk (j := 1) (by omega)), h.webs.cell (webRow_at hk (j := 2) (by omega)), h.webs.cell (webRow_at hk (j := 3) (by omega)), h.webs.cell (webRow_at hk (j := 4) (by omega)), h.webs.cell (webRow_at hk (j := 5) (by omega))⟩
theorem RefAt.wish_at {w : World} {R WB wc DB dc GB gc : Nat} {r : RefV} (h : RefAt w R WB wc DB dc GB gc r) {i : Nat} (hi : i < r.wanted.length) : w.cell? ⟨DB, i, none⟩ = some (.bool r.wanted[i]) :=
  h.want.cell (by rw [List.getElem?_map, List.getElem?_eq_getElem hi]; rfl)
theorem RefAt.give_at {w : World} {R WB wc DB dc GB gc : Nat} {r : RefV} (h : RefAt w R WB wc DB dc GB gc r) {i : Nat} (hi : i < r.gave.length) : w.cell? ⟨GB, i, none⟩ = some (.int .i64 r.gave[i]) :=
  h.gave.cell (by rw [List.getElem?_map, List.getElem?_eq_getElem hi]; rfl)
theorem web_put {w : World} {WB : Nat} {L : List WebV} {k j : Nat} {v v' : WebV} {x : Value} (h : RowAt w WB 98 (webRow L)) (hv : L[k]? = some v) (hj : j < 6) (hx : (webCells v).set j x = webCells v') : RowAt (w.setCell ⟨WB, k * 6 + j, none⟩ x) WB 98 (webRow (L.set k v')) := by
  have hk := (List.getElem?_eq_some_iff.1 hv).1
  have := h.set (i := k * 6 + j) (by rw [webRow_len]; omega) x
  rwa [webRow_set hv hj hx] at this
end Go.Proofs.YtnhgichiedninaaGreatDoor

namespace Go.Proofs.YtnhgichiedninaaGreatDoor
set_option linter.unusedSimpArgs false
set_option linter.unusedVariables false
open Go.RowKit Go.Shelf

def WebV.has (v : WebV) (i : Int) : Bool := decide (v.frm ≤ i) && decide (i < v.frm + v.cnt)
def takenB (L : List WebV) (i : Nat) : Bool := L.any fun v => v.has i
theorem taken_end {L : List WebV} {i k : Nat} (hk : ¬ k < L.length) (h : ∀ j v, j < k → L[j]? = some v → v.has i = false) : takenB L i = false := by
  unfold takenB
  rw [List.any_eq_false]
  intro v hv
  obtain ⟨j, hj⟩ := List.getElem?_of_mem hv
  simp [h j v (by have := (List.getElem?_eq_some_iff.1 hj).1; omega) hj]
theorem taken_hit {L : List WebV} {i k : Nat} {v : WebV} (hk : L[k]? = some v) (h : v.has i = true) : takenB L i = true := by
  unfold takenB
  rw [List.any_eq_true]
  exact ⟨v, List.mem_of_getElem? hk, h⟩
set_option maxRecDepth 100000 in
set_option maxHeartbeats 4000000 in
theorem rtaken_any (R WB wc DB dc GB gc : Nat) (r : RefV) (i : Nat) (w : World) (h : RefAt w R WB wc DB dc GB gc r) (hi : i ≤ 1000) :
    Calls Tryz.prog 83 #[.pointer (some ⟨R, 0, none⟩), .int .i64 i] w fun e w' => e = .returned (.bool (takenB r.webs i)) ∧ New w w' := by
  have HR := hid h
  have c0 := h.row.cellv 0 rfl; have cl := h.row.lt
  have hfw := h.few.1; have hcp := h.caps.1; have hw60 := h.few.2.1
  unfold maxLen at hcp
  clear h
  go_enter Tryz.func83, Tryz.ntmps83
  go_wp2
  clear c0 cl
  go_loopw [12] (fun x wr => ∃ k : Nat, x = .int .i64 k ∧ k ≤ r.webs.length ∧ (∀ j v, j < k → r.webs[j]? = some v → v.has i = false) ∧ New w wr) (fun x _ => r.webs.length - (intOf x).toNat)
  case atStart => exact ⟨0, rfl, by omega, by intros; omega, Mod.refl _ _⟩
  case round =>
    obtain ⟨k, rfl, hk, hb, hn⟩ := hrel
    have HB := hid hb; have HN := hid hn
    clear hb
    by_cases hlt : k < r.webs.length
    · obtain ⟨v, hv⟩ : ∃ v, r.webs[k]? = some v := ⟨_, List.getElem?_eq_getElem hlt⟩
      obtain ⟨g0, g1, g2, g3, g4, g5⟩ := (HR.out.new hn).seed hv
      have gl := (HR.out.new hn).webs.lt
      obtain ⟨r1, r2, r3⟩ := HR.out.rng v (List.mem_of_getElem? hv)
      have HV := hid hv
      have hwr : IntKind.i64.wrap (v.frm + v.cnt) = v.frm + v.cnt := by rw [IntKind.wrap_i64]; omega
      clear hn hv
      by_cases h1 : v.frm ≤ (i : Int)
      · by_cases h2 : (i : Int) < v.frm + v.cnt
        · have HE := hid (taken_hit HV.out (i := i) (by unfold WebV.has; rw [decide_eq_true h1, decide_eq_true h2]; rfl))
          go_wp2
          go_ret
          exact ⟨by rw [HE.out]; rfl, HN.out.alloc _⟩
        · have HE := hid (show v.has i = false by unfold WebV.has; rw [decide_eq_false h2]; simp)
          go_wp2
          refine ⟨⟨k + 1, by simp, by omega, fun j u hj hu => ?_, HN.out.alloc _⟩, by simp [intOf]; omega⟩
          rcases Nat.lt_succ_iff_lt_or_eq.1 hj with q | q
          · exact HB.out j u q hu
          · subst q; have := HV.out; rw [hu] at this; cases this; exact HE.out
      · have HE := hid (show v.has i = false by unfold WebV.has; rw [decide_eq_false h1]; simp)
        go_wp2
        refine ⟨⟨k + 1, by simp, by omega, fun j u hj hu => ?_, HN.out.alloc _⟩, by simp [intOf]; omega⟩
        rcases Nat.lt_succ_iff_lt_or_eq.1 hj with q | q
        · exact HB.out j u q hu
        · subst q; have := HV.out; rw [hu] at this; cases this; exact HE.out
    · have HE := hid (taken_end hlt HB.out)
      clear hn
      go_wp2
      go_ret
      exact ⟨by rw [HE.out]; rfl, HN.out⟩
def RefV.atE (r : RefV) (now web : Int) : Int := if now < r.now ∨ 1000000000 < now ∨ web < 0 ∨ (r.webs.length : Int) ≤ web then 7 else 0
set_option maxRecDepth 100000 in
set_option maxHeartbeats 2000000 in
theorem rat_any (R WB wc DB dc GB gc : Nat) (r : RefV) (now web : Int) (w : World) (h : RefAt w R WB wc DB dc GB gc r) :
    Calls Tryz.prog 44 #[.pointer (some ⟨R, 0, none⟩), .int .i64 now, .int .i64 web] w fun e w' => e = .returned (.int .i64 (r.atE now web)) ∧ w = w' := by
  have c0 := h.row.cellv 0 rfl; have c4 := h.row.cellv 4 rfl; have cl := h.row.lt
  have hfw := h.few.1; have hcp := h.caps.1
  unfold maxLen at hcp
  unfold RefV.atE
  clear h
  by_cases h1 : now < r.now
  · rw [if_pos (.inl h1)]
    go_enter Tryz.func44, Tryz.ntmps44
    go_wp2
    go_ret
    exact ⟨rfl, rfl⟩
  by_cases h2 : 1000000000 < now
  · rw [if_pos (.inr (.inl h2))]
    go_enter Tryz.func44, Tryz.ntmps44
    go_wp2
    go_ret
    exact ⟨rfl, rfl⟩
  by_cases h3 : web < 0
  · rw [if_pos (.inr (.inr (.inl h3)))]
    go_enter Tryz.func44, Tryz.ntmps44
    go_wp2
    go_ret
    exact ⟨rfl, rfl⟩
  by_cases h4 : (r.webs.length : Int) ≤ web
  · rw [if_pos (.inr (.inr (.inr h4)))]
    go_enter Tryz.func44, Tryz.ntmps44
    go_wp2
    go_ret
    exact ⟨rfl, rfl⟩
  · rw [if_neg (by omega)]
    go_enter Tryz.func44, Tryz.ntmps44
    go_wp2
    go_ret
    exact ⟨rfl, rfl⟩
end Go.Proofs.YtnhgichiedninaaGreatDoor
