/-
  Several texts in one, in their build order. The walk of Under (package web): the runs under way, sorted. Conditions: the client lies as told. The walks of Wanted and When (the reference's client of web seeds). Conditions: the client lies as told.
-/
import Derived.Test.YtnhgichiedninaaGreatDoorM29
import Derived.Test.YtnhgichiedninaaGreatDoorM14
import Derived.Test.YtnhgichiedninaaGreatDoorM34
import Derived.Shelf.SlSortCmp.NoneTotal
import Derived.Test.YtnhgichiedninaaGreatDoorM16
namespace Go.Proofs.YtnhgichiedninaaGreatDoor
set_option linter.unusedSimpArgs false
set_option linter.unusedVariables false
open Go.RowKit Go.Shelf Go.Sort

def runCells (s : Int × Int) : List Value := [.int .i64 s.1, .int .i64 s.2]
def runRow (U : List (Int × Int)) : List Value := U.flatMap runCells
theorem runRow_app (U V : List (Int × Int)) : runRow (U ++ V) = runRow U ++ runRow V := by unfold runRow; rw [List.flatMap_append]
theorem runRow_len (U : List (Int × Int)) : (runRow U).length = U.length * 2 := by
  induction U with
  | nil => rfl
  | cons x U ih => show (runCells x ++ runRow U).length = _; rw [List.length_append, ih]; simp [runCells]; omega
theorem runRow_at {U : List (Int × Int)} {i j : Nat} {s : Int × Int} (h : U[i]? = some s) (hj : j < 2) : (runRow U)[i * 2 + j]? = (runCells s)[j]? := by
  have hi := (List.getElem?_eq_some_iff.1 h).1
  have hsp : U = U.take i ++ s :: U.drop (i + 1) := by
    have e : U[i] = s := (List.getElem?_eq_some_iff.1 h).2
    rw [← e, List.getElem_cons_drop, List.take_append_drop]
  rw [hsp, runRow_app, List.getElem?_append_right (by rw [runRow_len, List.length_take]; omega), runRow_len, List.length_take, show i * 2 + j - min i U.length * 2 = j by omega]
  show (runCells s ++ runRow _)[j]? = _
  rw [List.getElem?_append_left (by simp [runCells]; omega)]
theorem addN (b off i : Nat) : (⟨b, off, none⟩ : Addr).add i = ⟨b, off + i, none⟩ := by
  unfold Addr.add
  split
  · next h => subst h; rfl
  · rfl
def OwnR (w : World) (base : Nat) (v : Value) (U : List (Int × Int)) : Prop := w.ownsRow base 34 2 v U.length (runRow U)
/-- The slice v holds the runs U. -/
def RunsAt (w : World) (v : Value) (U : List (Int × Int)) : Prop :=
  ∃ a c, v = .slice a U.length c ∧ U.length ≤ c ∧ c ≤ maxLen ∧ (U = [] ∨ ∃ g, a = some ⟨g, 0, none⟩ ∧ g < w.heap.size ∧ ∀ (i : Nat) (hi : i < U.length), w.cell? ⟨g, i * 2, none⟩ = some (.int .i64 U[i].1) ∧ w.cell? ⟨g, i * 2 + 1, none⟩ = some (.int .i64 U[i].2))
theorem RunsAt.new {w w' : World} {v : Value} {U : List (Int × Int)} (h : RunsAt w v U) (hn : New w w') : RunsAt w' v U := by
  obtain ⟨a, c, e, h1, h2, h3⟩ := h
  refine ⟨a, c, e, h1, h2, ?_⟩
  rcases h3 with h3 | ⟨g, e2, hg, hc⟩
  · exact .inl h3
  · exact .inr ⟨g, e2, Nat.lt_of_lt_of_le hg hn.size, fun i hi => ⟨New.cellv hn (hc i hi).1, New.cellv hn (hc i hi).2⟩⟩
/-! ### The sort -/
abbrev Rf := _root_.Fin 8192 × _root_.Fin 8192
def toR (s : Int × Int) : Rf := (_root_.Fin.ofNat 8192 s.1.toNat, _root_.Fin.ofNat 8192 s.2.toNat)
def ofR (x : Rf) : Int × Int := ((x.1.val : Int), (x.2.val : Int))
def InB (s : Int × Int) : Prop := 0 ≤ s.1 ∧ s.1 ≤ 4096 ∧ 0 ≤ s.2 ∧ s.2 ≤ 4096
theorem of_to {s : Int × Int} (h : InB s) : ofR (toR s) = s := by
  obtain ⟨a, b⟩ := s
  obtain ⟨h1, h2, h3, h4⟩ := h
  simp only at h1 h2 h3 h4
  simp only [ofR, toR, _root_.Fin.ofNat, Prod.mk.injEq]
  omega
def encR (x : Rf) : List Value := runCells (ofR x)
def cfR (x y : Rf) : Int := (x.1.val : Int) - (y.1.val : Int)
theorem ltR (x y : Rf) : Go.Proofs.ltOf cfR x y = decide (x.1.val < y.1.val) := by
  unfold Go.Proofs.ltOf cfR
  by_cases h : x.1.val < y.1.val
  · rw [decide_eq_true h, decide_eq_true (by omega)]
  · rw [decide_eq_false h, decide_eq_false (by omega)]
theorem swoR : SWO (Go.Proofs.ltOf cfR) := by
  refine ⟨fun x => ?_, fun x y z h1 h2 => ?_, fun x y z h1 h2 => ?_⟩
  · rw [ltR]; simp
  · rw [ltR, decide_eq_true_eq] at *; omega
  · rw [ltR, decide_eq_false_iff_not] at *; omega
set_option maxHeartbeats 1000000 in
theorem under1_any (x y : Rf) (w : World) : Calls Tryz.prog 41 (#[.agg (encR x).toArray, .agg (encR y).toArray] ++ #[]) w fun e w' => e = .returned (.int .i64 (cfR x y)) ∧ ∃ q os, w' = grow (w.drewN q) os := by
  have h1 := x.1.isLt; have h2 := y.1.isLt
  show Calls Tryz.prog 41 #[.agg #[.int .i64 (x.1.val : Int), .int .i64 (x.2.val : Int)], .agg #[.int .i64 (y.1.val : Int), .int .i64 (y.2.val : Int)]] w _
  unfold cfR
  obtain ⟨a, ha⟩ : ∃ a, a = x.1.val := ⟨_, rfl⟩
  obtain ⟨b, hb⟩ : ∃ b, b = x.2.val := ⟨_, rfl⟩
  obtain ⟨c, hc⟩ : ∃ c, c = y.1.val := ⟨_, rfl⟩
  obtain ⟨d, hd⟩ : ∃ d, d = y.2.val := ⟨_, rfl⟩
  rw [← ha, ← hb, ← hc, ← hd]
  rw [← ha] at h1
  rw [← hc] at h2
  clear ha hb hc hd
  go_enter Tryz.func41, Tryz.ntmps41
  go_wp2
  go_ret
  exact ⟨rfl, 0, _, by rw [alloc_eq_grow, alloc_eq_grow, grow_grow]; rfl⟩
theorem holdsR {w : World} {base g cap : Nat} {U : List (Int × Int)} (h : OwnR w base (.slice (some ⟨g, 0, none⟩) U.length cap) U) (hb : ∀ s ∈ U, InB s) : HoldsK encR 2 w g 0 (U.map toR).toArray := by
  intro j hj
  rw [size_flatK] at hj
  have hj' : j < U.length * 2 := by simpa using hj
  have hi : j / 2 < U.length := by omega
  have hjj : j = j / 2 * 2 + j % 2 := by omega
  have hU : U[j / 2]? = some U[j / 2] := List.getElem?_eq_getElem hi
  have hcell := runRow_at hU (show j % 2 < 2 by omega)
  rw [← hjj] at hcell
  have hlen2 : (runCells U[j / 2]).length = 2 := rfl
  have hfl : (flatK encR 2 (U.map toR).toArray)[j]! = (runCells U[j / 2])[j % 2]'(by omega) := by
    rw [get_flatK _ _ _ _ hj]
    have e1 : (U.map toR).toArray[j / 2]! = toR U[j / 2] := by
      rw [getElem!_pos _ _ (by simpa using hi)]
      simp
    rw [e1]
    unfold encR
    rw [of_to (hb _ (List.getElem_mem hi)), getElem!_pos _ _ (by omega)]
  have hrow := World.ownsRow.cells (g := g) h rfl j ((runCells U[j / 2])[j % 2]'(by omega)) (by rw [hcell, List.getElem?_eq_getElem (by omega)])
  rw [addN] at hrow
  refine ⟨by rw [hfl]; exact hrow, ?_⟩
  rcases h.2 with ⟨q, -⟩ | ⟨g2, cap2, cur, q, hbg, hg, rest⟩
  · cases q
  · have e : g2 = g := by injection q with q1; injection q1 with q1; injection q1 with q1; exact q1.symm
    subst e
    simp only [World.frozen?, hg]
    rfl
/-- What the sort leaves: the same runs, sorted. -/
theorem sortR_any (base : Nat) (v : Value) (U : List (Int × Int)) (w : World) (h : OwnR w base v U) (hb : ∀ s ∈ U, InB s) (hl : U.length ≤ 1000000) :
    Calls Tryz.prog 40 #[v, .func (.func 41) #[] #[]] w fun e w' => e = .returned (.tuple #[]) ∧ ∃ U', U'.Perm U ∧ U'.Pairwise (fun x y => x.1 ≤ y.1) ∧ RunsAt w' v U' ∧ Mod (fun k => base ≤ k) w w' := by
  have hown := h
  rcases h.2 with ⟨rfl, hz⟩ | ⟨g, cap, cur, rfl, hbg, hg, hnc, hcm, hcs, htake⟩
  · have hU : U = [] := List.eq_nil_of_length_eq_zero hz
    subst hU
    refine (show Calls Tryz.prog 40 #[.slice none 0 0, .func (.func 41) #[] #[]] w _ from AnyF.slices_SortFunc_none Tryz.laysSF none 0 (.func (.func 41) #[] #[]) w).mono ?_
    rintro e w' ⟨rfl, rfl⟩
    exact ⟨rfl, [], List.Perm.refl _, List.Pairwise.nil, ⟨none, 0, rfl, by simp, by simp [maxLen], .inl rfl⟩, Mod.refl _ _⟩
  · have hH := holdsR hown hb
    have hgl : g < w.heap.size := (Array.getElem?_eq_some_iff.1 hg).1
    have hsz : (U.map toR).toArray.size = U.length := by simp
    have hcon := AnyQ.slices_SortFunc Tryz.laysSF 2 Tryz.isAgg34 Tryz.sizeOf34 encR (fun _ => rfl) (fun x v hv => by simp [encR, runCells] at hv; rcases hv with rfl | rfl <;> rfl) cfR swoR 41 #[] g 0 cap (U.map toR).toArray w (enters_of Tryz.func41 (by kernel_rfl) rfl) (fun _ _ _ _ x y => under1_any x y _) hH hgl (by rw [hsz]; omega)
    rw [hsz] at hcon
    refine (show Calls Tryz.prog 40 #[.slice (some ⟨g, 0, none⟩) U.length cap, .func (.func 41) #[] #[]] w _ from hcon).mono ?_
    rintro e w' ⟨rfl, d', n, os, hp, hs, rfl⟩
    obtain ⟨p1, -, p3⟩ := hp
    have p1' : d'.size = U.length := by rw [p1, hsz]
    have hperm : (d'.toList.map ofR).Perm U := by
      have e1 : d'.extract 0 U.length = d' := by rw [← p1']; simp
      have e2 : (U.map toR).toArray.extract 0 U.length = (U.map toR).toArray := by
        apply Array.toList_inj.1
        simp
        exact List.take_of_length_le (by simp)
      rw [e1, e2] at p3
      have e3 : (U.map toR).map ofR = U := by
        rw [List.map_map]
        conv => rhs; rw [← List.map_id U]
        exact List.map_congr_left (fun s hs => of_to (hb s hs))
      have := p3.map ofR
      rwa [e3] at this
    have hlen : (d'.toList.map ofR).length = U.length := by simp [p1']
    have hH' := holdsK_sortWorldK_c encR 2 w g 0 (U.map toR).toArray d' n os hH hgl p1
    refine ⟨rfl, d'.toList.map ofR, hperm, ?_, ⟨some ⟨g, 0, none⟩, cap, by rw [hlen], by rw [hlen]; exact hnc, hcm, .inr ⟨g, rfl, by have := size_sortWorldK_c encR 2 w g 0 n d' os; omega, fun i hi => ?_⟩⟩, ?_⟩
    · rw [List.pairwise_iff_getElem]
      intro i j hi hj hij
      have h1 := hs i j (Nat.zero_le _) hij (by rw [hlen] at hj; exact hj)
      rw [hlen] at hi hj
      rw [getElem!_pos d' j (by omega), getElem!_pos d' i (by omega)] at h1
      rw [ltR, decide_eq_false_iff_not] at h1
      simp only [List.getElem_map, Array.getElem_toList, ofR]
      omega
    · rw [hlen] at hi
      have hid : i < d'.size := by omega
      obtain ⟨c0, -⟩ := hH'.cell (i := i) (c := 0) hid (by omega)
      obtain ⟨c1, -⟩ := hH'.cell (i := i) (c := 1) hid (by omega)
      rw [getElem!_pos d' i hid] at c0 c1
      simp only [Nat.zero_add, Nat.add_zero] at c0 c1
      simp only [List.getElem_map, Array.getElem_toList]
      exact ⟨c0, c1⟩
    · refine ⟨rfl, rfl, rfl, size_sortWorldK_c encR 2 w g 0 n d' os, fun k hk hne => ?_⟩
      have hgk : g ≠ k := fun e => hne (by omega)
      unfold sortWorldK
      rw [heap_grow_old _ _ (by rw [show (putRowK encR 2 (Sort.ahead w n) g 0 d').heap.size = (Sort.ahead w n).heap.size from size_putRow _ _ _ _ _]; exact hk)]
      simp [putRowK, putRow, mapBlock, Sort.ahead, Array.getElem?_modify, hgk]
theorem info_run : (Tryz.prog.info? 34).map (fun i => (i.zero, i.size, i.bytes)) = some (some (.agg #[.int .i64 0, .int .i64 0]), 2, 16) := by kernel_rfl
theorem OwnR.new {w w' : World} {base : Nat} {v : Value} {U : List (Int × Int)} (h : OwnR w base v U) (hn : New w w') : OwnR w' base v U := ownsZ_new h hn
theorem two_newU (w : World) (x y : Value) (t : TypeId) {b : Nat} (hb : b = w.heap.size) : ∀ (j : Nat) (u : Value), [x, y][j]? = some u → (w.alloc (.cells #[x, y] t)).cell? ((⟨b, 0, none⟩ : Addr).add j) = some u := by
  intro j u hj
  rw [addN]
  match j, hj with
  | 0, hj => simp at hj; subst hj; exact (Blk.newAt hb).cellv 0 rfl
  | 1, hj => simp at hj; subst hj; exact (Blk.newAt hb).cellv 1 rfl
set_option maxRecDepth 100000 in
set_option maxHeartbeats 8000000 in
theorem cunder_any (B SB cap MB : Nat) (ps : List Nat) (c : CliV) (G : List (Value × Value)) (w : World) (h : CliAt w B SB cap MB ps c G) :
    Calls Tryz.prog 11 #[.pointer (some ⟨B, 0, none⟩)] w fun e w' => ∃ v U, e = .returned v ∧ U.Perm (underOf c.seeds) ∧ U.Pairwise (fun x y => x.1 ≤ y.1) ∧ RunsAt w' v U ∧ New w w' := by
  have hr := h.room; have hf := h.few
  unfold maxLen at hr
  have HC := hid h
  have HB : Hid (∀ k, ∀ s ∈ underOf (c.seeds.take k), InB s) := hid (by
    intro k s hs
    unfold underOf at hs
    obtain ⟨t, ht, rfl⟩ := List.mem_map.1 hs
    have ht2 : t ∈ c.seeds := List.mem_of_mem_take (List.mem_filter.1 ht).1
    obtain ⟨r1, r2, r3⟩ := h.runs t ht2
    have := h.n1
    exact ⟨r1, by show t.frm ≤ 4096; omega, r2, by show t.cnt ≤ 4096; omega⟩)
  have HLN : Hid (∀ k, (underOf (c.seeds.take k)).length ≤ 20) := hid (by
    intro k
    unfold underOf
    rw [List.length_map]
    have h1 := List.length_filter_le (fun s : SeedV => s.under) (c.seeds.take k)
    have h2 := List.length_take_le k c.seeds
    have h3 : (c.seeds.take k).length ≤ c.seeds.length := by rw [List.length_take]; omega
    omega)
  have c0 := h.row.cellv 0 rfl; have cl := h.row.lt
  obtain ⟨i0, hi, hz0, hz1, hz2⟩ := info_parts info_run
  clear h
  go_enter Tryz.func11, Tryz.ntmps11
  go_wp2
  clear c0 cl
  go_loopw [13, 3] (fun x v wr => ∃ (k : Nat) (v1 : Value), x = .int .i64 k ∧ v1 = v ∧ k ≤ c.seeds.length ∧ OwnR wr w.heap.size v (underOf (c.seeds.take k)) ∧ New w wr) (fun x _ _ => c.seeds.length - (intOf x).toNat)
  case atStart => exact ⟨0, _, rfl, rfl, by omega, World.ownsRow_nil _ _ _ _, Mod.refl _ _⟩
  case round =>
    obtain ⟨k, v1, rfl, rfl, hk, ho, hn⟩ := hrel
    have HO := hid ho; have HN := hid hn
    have hln := HLN.out k
    by_cases hlt : k < c.seeds.length
    · obtain ⟨p, hp, hp2, hp3⟩ := HC.out.seed hlt
      have s0 := hn.cellv hp2
      have sl := Nat.lt_of_lt_of_le HC.out.slt hn.size
      have P3 := New.blk hn hp3
      have hnx := under_next hlt
      have HNX := hid hnx
      obtain ⟨s, hs⟩ : ∃ s, s = c.seeds[k] := ⟨_, rfl⟩
      rw [← hs] at P3 HNX
      have p0 : wr.cell? ⟨p, 0, none⟩ = some (.int .i64 s.frm) := P3.cellv 0 rfl
      have p1 : wr.cell? ⟨p, 1, none⟩ = some (.int .i64 s.cnt) := P3.cellv 1 rfl
      have p2 : wr.cell? ⟨p, 2, none⟩ = some (.bool s.under) := P3.cellv 2 rfl
      have pl := P3.lt
      obtain ⟨U, hU⟩ : ∃ U, U = underOf (c.seeds.take k) := ⟨_, rfl⟩
      rw [← hU] at HO HNX hln
      clear ho hn hp hp2 hp3 P3 hnx hs hU
      cases hu : s.under with
      | false =>
        rw [hu] at p2 HNX
        go_wp2
        refine ⟨⟨k + 1, _, by simp, rfl, by omega, ?_, HN.out⟩, by simp [intOf]; omega⟩
        rw [HNX.out]
        simpa using HO.out
      | true =>
        rw [hu] at p2 HNX
        go_wp2_with (at_builtin; refine wpList_append_own_at _ rfl _ _ 38 rfl w.heap.size 34 i0 _ 2 16 Tryz.underlying38 hi hz0 hz1 hz2 rfl (by decide) v1 U.length (runRow U) rfl ?ow ⟨wr.heap.size, 0, none⟩ 1 1 (runCells (s.frm, s.cnt)) rfl rfl ?hn ?h1 ?h63 ?hby ?hba ?_)
        case ow => exact ownsZ_new HO.out ((Mod.refl _ _).alloc _)
        case hn => exact fun j u hj => hj
        case h1 => intro u hu; simp [runCells] at hu; rcases hu with rfl | rfl <;> rfl
        case h63 => unfold maxLen; omega
        case hby => omega
        case hba => have := HN.out.size; simp; omega
        intro o4 w4 r4 g4 hne hob
        have N4 := hid (newGrown (HN.out.trans ((Mod.refl _ _).alloc _)) g4 (fun q hq => (World.ownsRow.lt HO.out q hq).1))
        have R4 : Hid (OwnR w4 w.heap.size o4 (underOf (c.seeds.take (k + 1)))) := hid (by
          rw [HNX.out]
          unfold OwnR
          rw [if_pos trivial, runRow_app, List.length_append]
          exact r4)
        clear r4 g4 hne hob
        go_wp2
        exact ⟨⟨k + 1, _, by simp, rfl, by omega, R4.out, N4.out⟩, by simp [intOf]; omega⟩
    · have hkk : c.seeds.take k = c.seeds := List.take_of_length_le (by omega)
      rw [hkk] at HO hln
      have HS := hid (sortR_any w.heap.size v1 (underOf c.seeds) wr HO.out (by have := HB.out k; rwa [hkk] at this) (by omega))
      clear ho hn hkk hln
      go_wp2_with fail
      refine HS.out.mono ?_
      rintro e w5 ⟨rfl, U', q1, q2, q3, q4⟩
      have Q1 := hid q1; have Q2 := hid q2; have Q3 := hid q3
      have Q4 := hid (HN.out.trans' q4 (fun i hi q => absurd q (by omega)))
      clear q1 q2 q3 q4
      go_wp2
      go_ret
      exact ⟨_, U', rfl, Q1.out, Q2.out, Q3.out, Q4.out⟩
end Go.Proofs.YtnhgichiedninaaGreatDoor

namespace Go.Proofs.YtnhgichiedninaaGreatDoor
set_option linter.unusedSimpArgs false
set_option linter.unusedVariables false
open Go.RowKit Go.Shelf

def RefV.wantTo (r : RefV) (k : Nat) : List Bool := (List.range k).map fun i => r.wanted.getD i false || takenB r.webs i
theorem wantTo_next (r : RefV) (k : Nat) : r.wantTo (k + 1) = r.wantTo k ++ [r.wanted.getD k false || takenB r.webs k] := by
  unfold RefV.wantTo
  rw [List.range_succ, List.map_append]
  rfl
theorem wantTo_len (r : RefV) (k : Nat) : (r.wantTo k).length = k := by simp [RefV.wantTo]
def OwnB (w : World) (base : Nat) (v : Value) (xs : List Bool) : Prop := w.ownsRow base 4 1 v xs.length (xs.map Value.bool)
theorem OwnB.bools {w : World} {base : Nat} {v : Value} {xs : List Bool} (h : OwnB w base v xs) : ∃ a c, v = .slice a xs.length c ∧ BoolsAt w a c xs := by
  have h0 := h
  rcases h.2 with ⟨rfl, hn⟩ | ⟨g, cap, cur, rfl, hbg, hg, hnc, hcm, hcs, htake⟩
  · have : xs = [] := List.eq_nil_of_length_eq_zero hn
    subst this
    exact ⟨none, 0, rfl, by simp, by simp [maxLen], .inl rfl⟩
  · refine ⟨_, cap, rfl, hnc, hcm, .inr ⟨g, 0, rfl, (Array.getElem?_eq_some_iff.1 hg).1, fun i x hx => ?_⟩⟩
    have h1 := World.ownsRow.cells (g := g) h0 rfl i (.bool x) (by rw [List.getElem?_map, hx]; rfl)
    rw [addN] at h1
    exact h1
theorem info_bool : (Tryz.prog.info? 4).map (fun i => (i.zero, i.size, i.bytes)) = some (some (.bool false), 1, 1) := by kernel_rfl
theorem one_newB (w : World) (x : Value) (t : TypeId) {b : Nat} (hb : b = w.heap.size) : ∀ (j : Nat) (u : Value), [x][j]? = some u → (w.alloc (.cells #[x] t)).cell? ((⟨b, 0, none⟩ : Addr).add j) = some u := by
  intro j u hj
  rw [addN]
  match j, hj with
  | 0, hj => simp at hj; subst hj; exact (Blk.newAt hb).cellv 0 rfl
set_option maxRecDepth 100000 in
set_option maxHeartbeats 8000000 in
theorem rWanted_any (R WB wc DB dc GB gc : Nat) (r : RefV) (w : World) (h : RefAt w R WB wc DB dc GB gc r) :
    Calls Tryz.prog 50 #[.pointer (some ⟨R, 0, none⟩)] w fun e w' => ∃ a c, e = .returned (.slice a (r.wantTo r.wanted.length).length c) ∧ BoolsAt w' a c (r.wantTo r.wanted.length) ∧ New w w' := by
  have HR := hid h
  have hw60 := h.few.2.1
  have hcp := h.caps.2.1
  unfold maxLen at hcp
  have c1 := h.row.cellv 1 rfl; have cl := h.row.lt
  obtain ⟨i0, hi, hz0, hz1, hz2⟩ := info_parts info_bool
  clear h
  go_enter Tryz.func50, Tryz.ntmps50
  go_wp2
  clear c1 cl
  go_loopw [11, 3] (fun x v wr => ∃ (k : Nat) (v1 : Value), x = .int .i64 k ∧ v1 = v ∧ k ≤ r.wanted.length ∧ OwnB wr w.heap.size v (r.wantTo k) ∧ New w wr) (fun x _ _ => r.wanted.length - (intOf x).toNat)
  case atStart => exact ⟨0, _, rfl, rfl, by omega, World.ownsRow_nil _ _ _ _, Mod.refl _ _⟩
  case round =>
    obtain ⟨k, v1, rfl, rfl, hk, ho, hn⟩ := hrel
    have HN := hid hn
    have HRW := hid (HR.out.new hn)
    have hxl := wantTo_len r k
    by_cases hlt : k < r.wanted.length
    · have g0 := HRW.out.wish_at hlt
      have gl := HRW.out.want.lt
      have HTK := hid (rtaken_any R WB wc DB dc GB gc r k wr HRW.out (by omega))
      have hnx := wantTo_next r k
      rw [List.getD_eq_getElem?_getD, List.getElem?_eq_getElem hlt, Option.getD_some] at hnx
      obtain ⟨X, hX⟩ : ∃ X, X = r.wantTo k := ⟨_, rfl⟩
      rw [← hX] at ho hnx hxl
      have HXL := hid hxl
      have HO : Hid (wr.ownsRow w.heap.size 4 1 v1 k (X.map Value.bool)) := hid (by have := ho; unfold OwnB at this; rwa [hxl] at this)
      obtain ⟨wb, hwb⟩ : ∃ wb, wb = r.wanted[k] := ⟨_, rfl⟩
      obtain ⟨tb, htb⟩ : ∃ tb, tb = takenB r.webs k := ⟨_, rfl⟩
      rw [← hwb] at g0 hnx
      rw [← htb] at hnx HTK
      have hkI : (k : Int) < (r.wanted.length : Int) := by omega
      clear ho hn hX hwb htb hxl
      cases wb with
      | true =>
        have HNX := hid hnx
        clear hnx
        simp only [Bool.true_or] at HNX
        go_wp2_with (at_builtin; refine wpList_append_own_at _ rfl _ _ 23 rfl w.heap.size 4 i0 _ 1 1 Tryz.underlying23 hi hz0 hz1 hz2 rfl (by decide) v1 k (X.map Value.bool) rfl ?ow ⟨wr.heap.size, 0, none⟩ 1 1 [.bool true] rfl rfl ?hn ?h1 ?h63 ?hby ?hba ?_)
        case ow => exact ownsZ_new HO.out ((Mod.refl _ _).alloc _)
        case hn => exact one_newB wr _ _ rfl
        case h1 => intro u hu; simp at hu; subst hu; rfl
        case h63 => unfold maxLen; omega
        case hby => omega
        case hba => have := HN.out.size; simp; omega
        intro o4 w4 r4 g4 hne hob
        have N4 := hid (newGrown (HN.out.trans ((Mod.refl _ _).alloc _)) g4 (fun q hq => (World.ownsRow.lt HO.out q hq).1))
        have R4 : Hid (OwnB w4 w.heap.size o4 (r.wantTo (k + 1))) := hid (by
          rw [HNX.out]
          unfold OwnB
          rw [List.length_append, List.map_append, HXL.out]
          exact r4)
        clear r4 g4 hne hob
        go_wp2
        exact ⟨⟨k + 1, _, by simp, rfl, by omega, R4.out, N4.out⟩, by simp [intOf]; omega⟩
      | false =>
        have HNX := hid hnx
        clear hnx
        simp only [Bool.false_or] at HNX
        go_wp2_with fail
        refine HTK.out.mono ?_
        rintro e w5 ⟨rfl, n5⟩
        have HN := hid (HN.out.trans n5)
        have HO := hid (ownsZ_new HO.out n5)
        clear n5 g0 gl HRW
        obtain ⟨wq, rfl⟩ : ∃ wq : World, wq = wr := ⟨_, rfl⟩
        obtain ⟨wr, rfl⟩ : ∃ wr : World, wr = w5 := ⟨_, rfl⟩
        go_wp2_with (at_builtin; refine wpList_append_own_at _ rfl _ _ 23 rfl w.heap.size 4 i0 _ 1 1 Tryz.underlying23 hi hz0 hz1 hz2 rfl (by decide) v1 k (X.map Value.bool) rfl ?ow ⟨wr.heap.size, 0, none⟩ 1 1 [.bool tb] rfl rfl ?hn ?h1 ?h63 ?hby ?hba ?_)
        case ow => exact ownsZ_new HO.out ((Mod.refl _ _).alloc _)
        case hn => exact one_newB wr _ _ rfl
        case h1 => intro u hu; simp at hu; subst hu; rfl
        case h63 => unfold maxLen; omega
        case hby => omega
        case hba => have := HN.out.size; simp; omega
        intro o4 w4 r4 g4 hne hob
        have N4 := hid (newGrown (HN.out.trans ((Mod.refl _ _).alloc _)) g4 (fun q hq => (World.ownsRow.lt HO.out q hq).1))
        have R4 : Hid (OwnB w4 w.heap.size o4 (r.wantTo (k + 1))) := hid (by
          rw [HNX.out]
          unfold OwnB
          rw [List.length_append, List.map_append, HXL.out]
          exact r4)
        clear r4 g4 hne hob
        go_wp2
        exact ⟨⟨k + 1, _, by simp, rfl, by omega, R4.out, N4.out⟩, by simp [intOf]; omega⟩
    · obtain rfl : k = r.wanted.length := by omega
      obtain ⟨a, c, rfl, hB⟩ := ho.bools
      have HB := hid hB
      clear ho hn hB
      go_wp2
      go_ret
      exact ⟨a, c, rfl, HB.out, HN.out⟩
end Go.Proofs.YtnhgichiedninaaGreatDoor
