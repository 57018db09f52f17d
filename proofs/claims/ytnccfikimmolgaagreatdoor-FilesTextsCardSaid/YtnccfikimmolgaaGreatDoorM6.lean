/-
  Several texts in one, in their build order. The walk of (*check).file: one file of a list is asked. Conditions: the check's two sets and the file lie as told. The walk of Light: what it says of a list of which each text is small. What a join is at most. Condition: the list lies as told, and its texts are small.
-/
import Derived.Test.YtnccfikimmolgaaGreatDoorM4
import Derived.Test.YtnccfikimmolgaaGreatDoorM5
import Derived.Deep.RegionHeld3
import Derived.Deep.RegionWith
import Derived.Test.YtnccfikimmolgaaGreatDoorM3
namespace Go.Proofs.YtnccfikimmolgaaGreatDoor
set_option linter.unusedSimpArgs false
set_option linter.unusedVariables false
open Go.RowKit

theorem StrsAt.mod {S : Nat → Prop} {w w' : World} {a : Option Addr} {c : Nat} {p : List ByteArray} (h : StrsAt w a c p) (hm : Mod S w w') (hs : ∀ b o s, w.cell? ⟨b, o, none⟩ = some (.string s) → ¬ S b) : StrsAt w' a c p := by
  refine ⟨h.room, h.cap, h.small, ?_⟩
  rcases h.at' with h | ⟨b, o, e, hb, hc⟩
  · exact .inl h
  · exact .inr ⟨b, o, e, Nat.lt_of_lt_of_le hb hm.size, fun i s hs' => Mod.cellv hm (hc i s hs') (hs b (o + i) s (hc i s hs'))⟩
theorem SetAt.no_cell {w : World} {b : Nat} {S : List ByteArray} (h : SetAt w b S) (o : Nat) : w.cell? ⟨b, o, none⟩ = none := by
  obtain ⟨es, clock, hb, -⟩ := h
  simp [World.cell?, hb]

/-- What the worlds within a call of file hold: i's box, the file's box, the check, its two sets, the path, the table; what has turned since w0. -/
structure Ck (w0 w : World) (bi bf b bm ba : Nat) (i : Nat) (tot : Int) (pa : Option Addr) (pc : Nat) (f : FileV) (M A : List ByteArray) : Prop where
  xi : Blk w bi #[.int .i64 i] 3
  xf : Blk w bf (frow pa pc f) 51
  xc : Blk w b #[.map (some bm), .map (some ba), .int .i64 tot] 121
  sm : SetAt w bm M
  sa : SetAt w ba A
  sp : StrsAt w pa pc f.path
  far : bi ≠ bm ∧ bi ≠ ba ∧ bf ≠ bm ∧ bf ≠ ba ∧ b ≠ bm ∧ b ≠ ba ∧ bm ≠ ba
  mod : Mod (fun k => k = b ∨ k = bm ∨ k = ba) w0 w
section
variable {w0 w w' : World} {bi bf b bm ba : Nat} {i : Nat} {tot : Int} {pa : Option Addr} {pc : Nat} {f : FileV} {M A : List ByteArray}
theorem Ck.new (h : Ck w0 w bi bf b bm ba i tot pa pc f M A) (n : New w w') : Ck w0 w' bi bf b bm ba i tot pa pc f M A :=
  ⟨n.blk h.xi, n.blk h.xf, n.blk h.xc, h.sm.mod n (fun x => x), h.sa.mod n (fun x => x), h.sp.new n, h.far, h.mod.trans' n (fun _ _ x => x.elim)⟩
theorem Ck.alloc (h : Ck w0 w bi bf b bm ba i tot pa pc f M A) (o : Obj) : Ck w0 (w.alloc o) bi bf b bm ba i tot pa pc f M A := h.new ((Mod.refl _ _).alloc o)
theorem Ck.drew (h : Ck w0 w bi bf b bm ba i tot pa pc f M A) : Ck w0 w.drew bi bf b bm ba i tot pa pc f M A := h.new (Mod.refl _ _).drew
theorem Ck.drewN (h : Ck w0 w bi bf b bm ba i tot pa pc f M A) (n : Nat) : Ck w0 (w.drewN n) bi bf b bm ba i tot pa pc f M A := h.new ((Mod.refl _ _).drewN n)
theorem Ck.cells (h : Ck w0 w bi bf b bm ba i tot pa pc f M A) : w.cell? ⟨bf, 0, none⟩ = some (.slice pa f.path.length pc) ∧ w.cell? ⟨bf, 1, none⟩ = some (.int .i64 f.len) ∧ w.cell? ⟨bf, 2, none⟩ = some (.bool f.pad) ∧ w.cell? ⟨b, 0, none⟩ = some (.map (some bm)) ∧ w.cell? ⟨b, 1, none⟩ = some (.map (some ba)) ∧ w.cell? ⟨b, 2, none⟩ = some (.int .i64 tot) ∧ w.frozen? ⟨b, 2, none⟩ = false ∧ b < w.heap.size ∧ bf < w.heap.size ∧ w.cell? ⟨bi, 0, none⟩ = some (.int .i64 i) ∧ bi < w.heap.size :=
  ⟨h.xf.cellv 0 rfl, h.xf.cellv 1 rfl, h.xf.cellv 2 rfl, h.xc.cellv 0 rfl, h.xc.cellv 1 rfl, h.xc.cellv 2 rfl, h.xc.frz 2, h.xc.lt, h.xf.lt, h.xi.cellv 0 rfl, h.xi.lt⟩
theorem Ck.put_m (h : Ck w0 w bi bf b bm ba i tot pa pc f M A) {M' : List ByteArray} (hs : SetAt w' bm M') (hm : Mod (· = bm) w w') : Ck w0 w' bi bf b bm ba i tot pa pc f M' A := by
  obtain ⟨f1, f2, f3, f4, f5, f6, f7⟩ := h.far
  refine ⟨hm.blk h.xi f1, hm.blk h.xf f3, hm.blk h.xc f5, hs, h.sa.mod hm (Ne.symm f7), h.sp.mod hm (fun b' o s hc e => ?_), h.far, h.mod.trans' hm (fun k _ e => .inr (.inl e))⟩
  rw [e, h.sm.no_cell] at hc
  cases hc
theorem Ck.put_a (h : Ck w0 w bi bf b bm ba i tot pa pc f M A) {A' : List ByteArray} (hs : SetAt w' ba A') (hm : Mod (· = ba) w w') : Ck w0 w' bi bf b bm ba i tot pa pc f M A' := by
  obtain ⟨f1, f2, f3, f4, f5, f6, f7⟩ := h.far
  refine ⟨hm.blk h.xi f2, hm.blk h.xf f4, hm.blk h.xc f6, h.sm.mod hm f7, hs, h.sp.mod hm (fun b' o s hc e => ?_), h.far, h.mod.trans' hm (fun k _ e => .inr (.inr e))⟩
  rw [e, h.sa.no_cell] at hc
  cases hc
end

/-- What file leaves behind, where it finds no fault. -/
structure Done (w0 w : World) (b bm ba : Nat) (tot : Int) (M A : List ByteArray) : Prop where
  xc : Blk w b #[.map (some bm), .map (some ba), .int .i64 tot] 121
  sm : SetAt w bm M
  sa : SetAt w ba A
  mod : Mod (fun k => k = b ∨ k = bm ∨ k = ba) w0 w

/-- What file is asked: the check, its two sets, the file, the table. -/
structure Ask (w : World) (b bm ba : Nat) (pa : Option Addr) (pc : Nat) (f : FileV) (tot : Int) (M A : List ByteArray) : Prop where
  xc : Blk w b #[.map (some bm), .map (some ba), .int .i64 tot] 121
  sm : SetAt w bm M
  sa : SetAt w ba A
  sp : StrsAt w pa pc f.path
  far : b ≠ bm ∧ b ≠ ba ∧ bm ≠ ba
  tab : Tab w
  len : -9223372036854775808 ≤ f.len ∧ f.len ≤ 9223372036854775807
abbrev boxes (w : World) (i : Nat) (pa : Option Addr) (pc : Nat) (f : FileV) : World := (w.alloc (.cells #[.int .i64 i] 3)).alloc (.cells #[.slice pa f.path.length pc, .int .i64 f.len, .bool f.pad] 51)
theorem boxes_new (w : World) (i : Nat) (pa : Option Addr) (pc : Nat) (f : FileV) : New w (boxes w i pa pc f) := ((Mod.refl _ _).alloc _).alloc _
theorem Ask.start {w : World} {b bm ba : Nat} {pa : Option Addr} {pc : Nat} {f : FileV} {tot : Int} {M A : List ByteArray} (h : Ask w b bm ba pa pc f tot M A) (i : Nat) :
    Ck w (boxes w i pa pc f) w.heap.size (w.heap.size + 1) b bm ba i tot pa pc f M A := by
  have q1 := h.sm.lt
  have q2 := h.sa.lt
  exact ⟨(Blk.new _ _ _).alloc _, by have := Blk.new (w.alloc (.cells #[.int .i64 i] 3)) (frow pa pc f) 51; simpa using this, (h.xc.alloc _).alloc _, (h.sm.alloc _).alloc _, (h.sa.alloc _).alloc _, h.sp.new (boxes_new _ _ _ _ _), ⟨by omega, by omega, by omega, by omega, h.far.1, h.far.2.1, h.far.2.2⟩, ((Mod.refl _ _).alloc _).alloc _⟩
/-- The end of file: a fault, or the check turned. -/
def Fin (w : World) (b bm ba i : Nat) (f : FileV) (tot : Int) (M A : List ByteArray) : Option Int → Ending → World → Prop
  | some e, e', w' => e' = .panicked (told i e) ∧ Mod (fun k => k = b ∨ k = bm ∨ k = ba) w w'
  | none, e', w' => e' = .returned (.tuple #[]) ∧ Done w w' b bm ba (tot + f.len) (addM f M) (addA f A)
theorem strs_pad (w : World) (n : Int) (hs : (itoaB n).size ≤ 21) : StrsAt (w.alloc (.cells #[.string ⟨#[46, 112, 97, 100]⟩, .string (itoaB n)] 9)) (some ⟨w.heap.size, 0, none⟩) 2 (padPath n) := by
  refine ⟨Nat.le_refl _, by simp [maxLen], fun s h => ?_, .inr ⟨_, _, rfl, by simp, fun i s h => ?_⟩⟩
  · simp [padPath] at h
    rcases h with rfl | rfl
    · simp [dotpad, maxLen]
      decide
    · unfold maxLen; omega
  · have hb := Blk.new w #[.string ⟨#[46, 112, 97, 100]⟩, .string (itoaB n)] 9
    match i, h with
    | 0, h => simp [padPath, dotpad] at h; subst h; exact hb.cellv 0 rfl
    | 1, h => simp [padPath] at h; subst h; exact hb.cellv 1 rfl
    | i + 2, h => simp [padPath] at h

theorem StrsAt.alloc {w : World} {a : Option Addr} {c : Nat} {p : List ByteArray} (h : StrsAt w a c p) (o : Obj) : StrsAt (w.alloc o) a c p := h.new ((Mod.refl _ _).alloc o)
theorem StrsAt.drew {w : World} {a : Option Addr} {c : Nat} {p : List ByteArray} (h : StrsAt w a c p) : StrsAt w.drew a c p := h.new (Mod.refl _ _).drew


theorem Done.drew {w0 w : World} {b bm ba : Nat} {tot : Int} {M A : List ByteArray} (h : Done w0 w b bm ba tot M A) : Done w0 w.drew b bm ba tot M A := ⟨h.xc.drew, h.sm.drew, h.sa.drew, h.mod.drew⟩
theorem Ck.finish {w0 w : World} {bi bf b bm ba : Nat} {i : Nat} {tot : Int} {pa : Option Addr} {pc : Nat} {f : FileV} {M A : List ByteArray} (h : Ck w0 w bi bf b bm ba i tot pa pc f M A) (t : Int) :
    Done w0 (w.setCell ⟨b, 2, none⟩ (.int .i64 t)) b bm ba t M A :=
  ⟨(h.xc.set 2 _).row rfl, h.sm.other (Ne.symm h.far.2.2.2.2.1), h.sa.other (Ne.symm h.far.2.2.2.2.2.1), h.mod.set _ _ (.inl (.inl rfl))⟩
end Go.Proofs.YtnccfikimmolgaaGreatDoor

namespace Go.Proofs.YtnccfikimmolgaaGreatDoor
set_option linter.unusedSimpArgs false
set_option linter.unusedVariables false
open Go.RowKit

/-- The bytes of a path's parts, of all paths. -/
def partSum (p : List ByteArray) : Nat := (p.map (·.size)).sum
def allSum (l : List FileV) : Nat := (l.map fun f => partSum f.path).sum
theorem allSum_next {l : List FileV} {k : Nat} (h : k < l.length) : allSum (l.take (k + 1)) = allSum (l.take k) + partSum l[k].path := by
  unfold allSum
  rw [List.take_add_one, List.getElem?_eq_getElem h, List.map_append, List.sum_append]
  simp only [Option.toList_some, List.map_cons, List.map_nil, List.sum_cons, List.sum_nil, Nat.add_zero]
theorem partSum_next {p : List ByteArray} {k : Nat} (h : k < p.length) : partSum (p.take (k + 1)) = partSum (p.take k) + p[k].size := by
  unfold partSum
  rw [List.take_add_one, List.getElem?_eq_getElem h, List.map_append, List.sum_append]
  simp only [Option.toList_some, List.map_cons, List.map_nil, List.sum_cons, List.sum_nil, Nat.add_zero]
theorem partSum_le {p : List ByteArray} {B : Nat} (h : ∀ s ∈ p, s.size ≤ B) : partSum p ≤ p.length * B := by
  induction p with
  | nil => simp [partSum]
  | cons x r ih =>
    have h1 := ih (fun s hs => h s (by simp [hs]))
    have h2 := h x (by simp)
    simp only [partSum, List.map_cons, List.sum_cons, List.length_cons] at *
    rw [Nat.add_mul]
    omega
theorem allSum_mem {l : List FileV} {f : FileV} (h : f ∈ l) : partSum f.path ≤ allSum l := by
  induction l with
  | nil => cases h
  | cons x r ih =>
    simp only [allSum, List.map_cons, List.sum_cons] at *
    rcases List.mem_cons.1 h with rfl | h
    · omega
    · have := ih h
      omega
theorem join_le (p : List ByteArray) : (joinB p).size ≤ partSum p + p.length := by
  have ht : ∀ r : List ByteArray, (Lib.joinTail [47] (r.map (·.data.toList))).length = partSum r + r.length := by
    intro r
    induction r with
    | nil => simp [Lib.joinTail, partSum]
    | cons y t ih =>
      have h3 : y.data.toList.length = y.size := by rw [Array.length_toList]; rfl
      simp only [Lib.joinTail, partSum, List.map_cons, List.flatten_cons, List.length_append, List.length_cons, List.length_nil, List.sum_cons] at *
      omega
  have e : (joinB p).size = (Lib.join (p.map (·.data.toList)) [47]).length := by simp [joinB, ByteArray.size]
  rw [e]
  cases p with
  | nil => simp [Lib.join]
  | cons x r =>
    have h3 : x.data.toList.length = x.size := by rw [Array.length_toList]; rfl
    have := ht r
    rw [List.map_cons, Lib.join_cons, List.length_append]
    simp only [partSum, List.map_cons, List.sum_cons, List.length_cons] at *
    omega
/-- What Light says. -/
def LightOut (w w' : World) (l : List FileV) (e : Ending) : Prop := ∃ v, e = .returned (.bool v) ∧ (v = true → (∀ f ∈ l, f.path.length ≤ 12) ∧ allSum l ≤ 3000 ∧ l.length ≤ 60) ∧ New w w'
theorem LightOut.no {w w' : World} {l : List FileV} (hn : New w w') : LightOut w w' l (.returned (.bool false)) := ⟨false, rfl, fun h => (by cases h), hn⟩
set_option maxRecDepth 100000 in
set_option maxHeartbeats 2000000 in
theorem light_many (a : Option Addr) (c : Nat) (l : List FileV) (w : World) (h : FilesAt w a c l) (h60 : 60 < l.length) :
    Calls Tryz.prog 15 #[.slice a l.length c] w fun e w' => LightOut w w' l e := by
  have hm1 := h.room; have hm2 := h.cap
  unfold maxLen at hm2
  obtain ⟨b1, o1, rfl, hb1, hc1⟩ := h.get (by omega)
  have HC1 := hid hc1
  clear h hc1
  have h60I : ¬ ((l.length : Nat) : Int) ≤ 60 := by omega
  go_enter Tryz.func15, Tryz.ntmps15
  go_wp2
  go_loopw [10, 3] (fun i n wr => ∃ (k : Nat) (x : Int), i = .int .i64 k ∧ n = .int .i64 x ∧ k ≤ l.length ∧ New w wr) (fun i _ _ => l.length - (intOf i).toNat)
  case atStart => exact ⟨0, 0, rfl, rfl, by omega, Mod.refl _ _⟩
  case round =>
    obtain ⟨k, x, rfl, rfl, hk, hn⟩ := hrel
    have HN := hid hn
    by_cases hlt : k < l.length
    · obtain ⟨pa, pc, g0, g1, g2, hst, -⟩ := (HC1.out k hlt).new hn
      clear hn
      obtain ⟨f, hf⟩ : ∃ f, f = l[k] := ⟨_, rfl⟩
      rw [← hf] at g0 g1 g2 hst
      clear hf
      have hr1 := hst.room; have hr2 := hst.cap
      unfold maxLen at hr2
      have HST := hid hst
      clear hst
      by_cases h12 : (12 : Int) < f.path.length
      · go_wp2
        go_ret
        exact LightOut.no (HN.out.alloc _)
      · by_cases hp0 : 0 < f.path.length
        · obtain ⟨pb, po, rfl, hpb, hpc⟩ := HST.out.get hp0
          have HPC := hid hpc
          clear hpc
          go_wp2
          go_loopw [21, 3] (fun j n wr2 => ∃ (m : Nat) (y : Int), j = .int .i64 m ∧ n = .int .i64 y ∧ m ≤ f.path.length ∧ wr2 = wr.alloc (.cells #[.slice (some ⟨pb, po, none⟩) f.path.length pc, .int .i64 f.len, .bool f.pad] 51)) (fun j _ _ => f.path.length - (intOf j).toNat)
          case atStart => exact ⟨0, x, rfl, rfl, by omega, rfl⟩
          case round =>
            obtain ⟨m, y, rfl, rfl, hm, rfl⟩ := hrel
            by_cases hmt : m < f.path.length
            · have q0 := HPC.out m hmt
              have hsz : (f.path[m]).size ≤ 9223372036854775807 := HST.out.small _ (List.getElem_mem hmt)
              obtain ⟨s, hs⟩ : ∃ s, s = f.path[m] := ⟨_, rfl⟩
              rw [← hs] at q0 hsz
              clear hs
              go_wp2
              exact ⟨⟨m + 1, _, by simp, rfl, by omega, trivial⟩, by simp [intOf]; omega⟩
            · go_wp2
              exact ⟨⟨k + 1, y, by simp, rfl, by omega, HN.out.alloc _⟩, by simp [intOf]; omega⟩
        · have hpl : f.path.length = 0 := by omega
          rw [hpl] at g0
          clear hpl
          go_wp2
          refine wp_loop_rounds 1 ?_
          rw [rounds_succ]
          go_wp2
          exact ⟨⟨k + 1, x, by simp, rfl, by omega, HN.out.alloc _⟩, by simp [intOf]; omega⟩
    · clear hn
      go_wp2
      go_ret
      exact LightOut.no HN.out
set_option maxRecDepth 100000 in
set_option maxHeartbeats 2000000 in
theorem light_few (a : Option Addr) (c : Nat) (l : List FileV) (w : World) (h : FilesAt w a c l) (hs : ∀ f ∈ l, ∀ s ∈ f.path, s.size ≤ 140737488355328) (h60 : l.length ≤ 60) :
    Calls Tryz.prog 15 #[.slice a l.length c] w fun e w' => LightOut w w' l e := by
  have hm1 := h.room; have hm2 := h.cap
  unfold maxLen at hm2
  by_cases hz : 0 < l.length
  · obtain ⟨b1, o1, rfl, hb1, hc1⟩ := h.get hz
    have HC1 := hid hc1; have HSM := hid hs
    clear h hc1 hs
    have h60I : ((l.length : Nat) : Int) ≤ 60 := by omega
    go_enter Tryz.func15, Tryz.ntmps15
    go_wp2
    go_loopw [10, 3] (fun i n wr => ∃ (k x : Nat), i = .int .i64 k ∧ n = .int .i64 x ∧ x = allSum (l.take k) ∧ (∀ f ∈ l.take k, f.path.length ≤ 12) ∧ k ≤ l.length ∧ x ≤ k * 1688849860263936 ∧ New w wr) (fun i _ _ => l.length - (intOf i).toNat)
    case atStart => exact ⟨0, 0, rfl, rfl, rfl, by simp, by omega, by omega, Mod.refl _ _⟩
    case round =>
      obtain ⟨k, x, rfl, rfl, hx, hp12, hk, hxb, hn⟩ := hrel
      have HN := hid hn; have HX := hid hx; have HP := hid hp12
      clear hx hp12
      by_cases hlt : k < l.length
      · obtain ⟨pa, pc, g0, g1, g2, hst, -⟩ := (HC1.out k hlt).new hn
        have HNX := hid (allSum_next hlt)
        have HTK : Hid (l.take (k + 1) = l.take k ++ [l[k]]) := hid (by rw [List.take_add_one, List.getElem?_eq_getElem hlt]; rfl)
        have hsm := HSM.out l[k] (List.getElem_mem hlt)
        clear hn
        obtain ⟨f, hf⟩ : ∃ f, f = l[k] := ⟨_, rfl⟩
        rw [← hf] at g0 g1 g2 hst HNX HTK hsm
        clear hf
        have hr1 := hst.room; have hr2 := hst.cap
        unfold maxLen at hr2
        have HST := hid hst; have HSF := hid hsm
        clear hst hsm
        by_cases h12 : (12 : Int) < f.path.length
        · go_wp2
          go_ret
          exact LightOut.no (HN.out.alloc _)
        · have hp12 : f.path.length ≤ 12 := by omega
          have HP2 : Hid (∀ g ∈ l.take (k + 1), g.path.length ≤ 12) := hid (by
            rw [HTK.out]
            intro g hg
            rcases List.mem_append.1 hg with q | q
            · exact HP.out g q
            · rw [List.mem_singleton.1 q]; exact hp12)
          have hk60 : k ≤ 60 := by omega
          have hxb2 : x ≤ 101330991615836160 := by omega
          by_cases hp0 : 0 < f.path.length
          · obtain ⟨pb, po, rfl, hpb, hpc⟩ := HST.out.get hp0
            have HPC := hid hpc
            clear hpc
            go_wp2
            go_loopw [21, 3] (fun j n wr2 => ∃ (m y : Nat), j = .int .i64 m ∧ n = .int .i64 y ∧ y = x + partSum (f.path.take m) ∧ y ≤ x + m * 140737488355328 ∧ m ≤ f.path.length ∧ wr2 = wr.alloc (.cells #[.slice (some ⟨pb, po, none⟩) f.path.length pc, .int .i64 f.len, .bool f.pad] 51)) (fun j _ _ => f.path.length - (intOf j).toNat)
            case atStart => exact ⟨0, x, rfl, rfl, by simp [partSum], by omega, by omega, rfl⟩
            case round =>
              obtain ⟨m, y, rfl, rfl, hy, hyb, hm, rfl⟩ := hrel
              have HY := hid hy
              clear hy
              by_cases hmt : m < f.path.length
              · have q0 := HPC.out m hmt
                have HPS := hid (partSum_next hmt)
                have hsz : (f.path[m]).size ≤ 140737488355328 := HSF.out _ (List.getElem_mem hmt)
                obtain ⟨s, hs⟩ : ∃ s, s = f.path[m] := ⟨_, rfl⟩
                rw [← hs] at q0 hsz HPS
                clear hs
                have hyb2 : y + s.size ≤ 9223372036854775807 := by omega
                go_wp2
                exact ⟨⟨m + 1, y + s.size, by simp, by simp, by rw [HPS.out, HY.out]; omega, by omega, by omega, trivial⟩, by simp [intOf]; omega⟩
              · have HY2 : Hid (y = allSum (l.take (k + 1))) := hid (by rw [HY.out, List.take_of_length_le (by omega), HNX.out, HX.out])
                have hyb2 : y ≤ (k + 1) * 1688849860263936 := by omega
                go_wp2
                exact ⟨⟨k + 1, y, by simp, rfl, HY2.out, HP2.out, by omega, hyb2, HN.out.alloc _⟩, by simp [intOf]; omega⟩
          · have hpl : f.path.length = 0 := by omega
            have HY2 : Hid (x = allSum (l.take (k + 1))) := hid (by rw [HNX.out, ← HX.out, List.eq_nil_of_length_eq_zero hpl]; simp [partSum])
            rw [hpl] at g0
            clear hpl
            go_wp2
            refine wp_loop_rounds 1 ?_
            rw [rounds_succ]
            go_wp2
            exact ⟨⟨k + 1, x, by simp, rfl, HY2.out, HP2.out, by omega, Nat.le_trans hxb (Nat.mul_le_mul_right _ (Nat.le_succ k)), HN.out.alloc _⟩, by simp [intOf]; omega⟩
      · clear hn
        have hkl : l.take k = l := List.take_of_length_le (by omega)
        rw [hkl] at HX HP
        clear hkl
        by_cases h3 : x ≤ 3000
        · have h3I : (x : Int) ≤ 3000 := by omega
          go_wp2
          go_ret
          exact ⟨true, rfl, fun _ => ⟨HP.out, by rw [← HX.out]; exact h3, h60⟩, HN.out⟩
        · have h3I : ¬ (x : Int) ≤ 3000 := by omega
          go_wp2
          go_ret
          exact LightOut.no HN.out
  · obtain rfl : l = [] := List.eq_nil_of_length_eq_zero (by omega)
    clear h hs
    go_enter Tryz.func15, Tryz.ntmps15
    go_wp2
    refine wp_loop_rounds 1 ?_
    rw [rounds_succ]
    go_wp2
    go_ret
    exact ⟨true, rfl, fun _ => ⟨by simp, Nat.zero_le _, by simp⟩, Mod.refl _ _⟩
theorem light_told (a : Option Addr) (c : Nat) (l : List FileV) (w : World) (h : FilesAt w a c l) (hs : ∀ f ∈ l, ∀ s ∈ f.path, s.size ≤ 140737488355328) :
    Calls Tryz.prog 15 #[.slice a l.length c] w fun e w' => LightOut w w' l e := by
  by_cases h60 : l.length ≤ 60
  · exact light_few a c l w h hs h60
  · exact light_many a c l w h (by omega)
end Go.Proofs.YtnccfikimmolgaaGreatDoor
