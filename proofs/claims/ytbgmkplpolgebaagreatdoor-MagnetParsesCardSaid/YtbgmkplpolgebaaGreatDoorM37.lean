/-
  Several texts in one, in their build order. A list of addresses of the call's own; the walk of added for addresses (package magnet). Conditions as told. The two replacements of a comma's escape are one pass. Plain Lean, no program. No condition. What a magnet's text says, told once in plain words. Plain Lean, no program. No condition.
-/
import Derived.Test.YtbgmkplpolgebaaGreatDoorM36
import Derived.Test.YtbgmkplpolgebaaGreatDoorM14
import Derived.Test.YtbgmkplpolgebaaGreatDoorM1
import Derived.Lib.Replace
import Derived.Lib.CountLaws
import Derived.Lib.IndexMore
import Derived.Test.YtbgmkplpolgebaaGreatDoorM11
namespace Go.Proofs.YtbgmkplpolgebaaGreatDoor
set_option linter.unusedSimpArgs false
set_option linter.unusedVariables false
open Go.RowKit Go.Shelf

def adrCells (x : AdrV) : List Value := [.int .i64 x.fam, .string x.ip, .int .i64 x.port]
def adrVM (x : AdrV) : Value := .agg #[.int .i64 x.fam, .string x.ip, .int .i64 x.port]
def adrRow : List AdrV → List Value
  | [] => []
  | x :: r => adrCells x ++ adrRow r
theorem adrRow_app : ∀ (A B : List AdrV), adrRow (A ++ B) = adrRow A ++ adrRow B
  | [], B => rfl
  | x :: r, B => by
    show adrCells x ++ adrRow (r ++ B) = adrCells x ++ adrRow r ++ adrRow B
    rw [adrRow_app r B, List.append_assoc]
theorem adrRow_at : ∀ {A : List AdrV} {i j : Nat} {x : AdrV}, A[i]? = some x → j < 3 → (adrRow A)[i * 3 + j]? = (adrCells x)[j]?
  | [], i, j, x, h, hj => by cases h
  | y :: r, 0, j, x, h, hj => by
    injection h with h
    subst h
    show (adrCells y ++ adrRow r)[0 * 3 + j]? = _
    rw [List.getElem?_append_left (by show 0 * 3 + j < 3; omega), Nat.zero_mul, Nat.zero_add]
  | y :: r, i + 1, j, x, h, hj => by
    have := adrRow_at (A := r) (i := i) (j := j) h hj
    show (adrCells y ++ adrRow r)[(i + 1) * 3 + j]? = _
    rw [List.getElem?_append_right (by show 3 ≤ (i + 1) * 3 + j; omega)]
    rw [show (i + 1) * 3 + j - (adrCells y).length = i * 3 + j by show (i + 1) * 3 + j - 3 = _; omega]
    exact this
theorem info_adrM : (Tryz.prog.info? 64).map (fun i => (i.zero, i.size, i.bytes)) = some (some (.agg #[.int .i64 0, .string ⟨#[]⟩, .int .i64 0]), 3, 32) := by kernel_rfl
theorem three_newM (w : World) (b : Nat) (hb : b = w.heap.size) (x y z : Value) (t : TypeId) : ∀ (j : Nat) (u : Value), [x, y, z][j]? = some u → (w.alloc (.cells #[x, y, z] t)).cell? ((⟨b, 0, none⟩ : Addr).add j) = some u := by
  subst hb
  intro j u hj
  have B := Blk.new w #[x, y, z] t
  rw [show (⟨w.heap.size, 0, none⟩ : Addr).add j = ⟨w.heap.size, 0 + j, none⟩ by unfold Addr.add; split <;> simp_all, Nat.zero_add]
  exact B.cellv j (by simpa using hj)
/-- The slice v, of the call's own memory from block base on, holds the addresses l. -/
structure OwnA (w : World) (base : Nat) (v : Value) (l : List AdrV) : Prop where
  row : w.ownsRow base 64 3 v l.length (adrRow l)
theorem OwnA.nil (w : World) (base : Nat) : OwnA w base (.slice none 0 0) [] := ⟨World.ownsRow_nil _ _ _ _⟩
theorem OwnA.block {w : World} {base g : Nat} {v : Value} {l : List AdrV} (h : OwnA w base v l) (hv : v.ownBlock = some g) : base ≤ g ∧ g < w.heap.size := by
  rcases h.row.2 with ⟨rfl, hn⟩ | ⟨g', cap, cur, rfl, hbg, hg, -⟩
  · cases hv
  · injection hv with hv
    subst hv
    exact ⟨hbg, (Array.getElem?_eq_some_iff.1 hg).1⟩
theorem OwnA.mod {S : Nat → Prop} {w w' : World} {base : Nat} {v : Value} {l : List AdrV} (h : OwnA w base v l) (n : Mod S w w') (hs : ∀ k, v.ownBlock = some k → ¬ S k) : OwnA w' base v l := by
  refine ⟨?_⟩
  rcases h.row.2 with ⟨rfl, hn⟩ | ⟨g, cap, cur, rfl, hbg, hg, r⟩
  · exact ⟨h.row.1, .inl ⟨rfl, hn⟩⟩
  · have hlt := (Array.getElem?_eq_some_iff.1 hg).1
    exact ⟨h.row.1, .inr ⟨g, cap, cur, rfl, hbg, (n.block g hlt (hs g rfl)).trans hg, r⟩⟩
theorem OwnA.new {w w' : World} {base : Nat} {v : Value} {l : List AdrV} (h : OwnA w base v l) (n : New w w') : OwnA w' base v l := h.mod n (fun _ _ x => x)
theorem OwnA.form {w : World} {base : Nat} {v : Value} {l : List AdrV} (h : OwnA w base v l) : ∃ a c, v = .slice a l.length c := by
  rcases h.row.2 with ⟨rfl, hn⟩ | ⟨g, cap, cur, rfl, hbg, hg, hnc, hcm, hcs, htake⟩
  · have : l = [] := List.eq_nil_of_length_eq_zero hn
    subst this
    exact ⟨none, 0, rfl⟩
  · exact ⟨some ⟨g, 0, none⟩, cap, rfl⟩
theorem ownA_of {w : World} {base : Nat} {v : Value} {l : List AdrV} {x : AdrV} (h : w.ownsRow base 64 3 v (l.length + 1) (adrRow l ++ adrCells x)) : OwnA w base v (l ++ [x]) := by
  refine ⟨?_⟩
  rw [List.length_append, adrRow_app, show adrRow [x] = adrCells x from List.append_nil _]
  exact h
theorem aadded_no (base : Nat) (v : Value) (l : List AdrV) (x : AdrV) (w : World) (h : OwnA w base v l) (hl : 20 ≤ l.length) :
    Calls Tryz.prog 80 #[v, adrVM x, .int .i64 20] w fun e w' => e = .panicked (toldM 4) ∧ New w w' := by
  obtain ⟨a, c, rfl⟩ := h.form
  have hI : ¬ (l.length : Int) < 20 := by omega
  have hd : decide ((l.length : Int) < 20) = false := decide_eq_false hI
  unfold adrVM
  clear h hl
  go_enter Tryz.func80, Tryz.ntmps80
  go_wp2_with fail
  refine (need_no 4 _).mono ?_
  rintro e w1 ⟨rfl, rfl⟩
  go_wp2
  exact ⟨rfl, rfl, (Mod.refl _ _).alloc _⟩
set_option maxHeartbeats 1000000 in
theorem aadded_yes (base : Nat) (v : Value) (l : List AdrV) (x : AdrV) (w : World) (h : OwnA w base v l) (hl : l.length < 20) (hb : base ≤ w.heap.size) :
    Calls Tryz.prog 80 #[v, adrVM x, .int .i64 20] w fun e w' => ∃ o, e = .returned o ∧ OwnA w' base o (l ++ [x]) ∧ Mod (fun k => v.ownBlock = some k) w w' ∧ (o.ownBlock = v.ownBlock ∨ ∃ g, o.ownBlock = some g ∧ w.heap.size ≤ g) := by
  obtain ⟨i0, hi, hz0, hz1, hz2⟩ := info_parts info_adrM
  have HO := hid h
  obtain ⟨fam, ip, port⟩ := x
  obtain ⟨a, c, rfl⟩ := h.form
  obtain ⟨V, hV⟩ : ∃ V : Value, V = .slice a l.length c := ⟨_, rfl⟩
  have HVV := hid hV
  have hI : (l.length : Int) < 20 := by omega
  have hd : decide ((l.length : Int) < 20) = true := decide_eq_true hI
  have B0 := Blk.new w #[.int .i64 fam, .string ip, .int .i64 port] 64
  have c0 := B0.cellv 0 rfl; have c1 := B0.cellv 1 rfl; have c2 := B0.cellv 2 rfl
  unfold adrVM
  simp only
  clear h hl hV B0
  go_enter Tryz.func80, Tryz.ntmps80
  go_wp2_with fail
  refine (need_yes 4 _).mono ?_
  rintro e w1 ⟨rfl, rfl⟩
  go_wp2_with (at_builtin; refine wpList_append_own_at _ rfl _ _ 24 rfl base 64 i0 _ 3 32 Tryz.underlying24 hi hz0 hz1 hz2 rfl (by decide) (.slice a l.length c) l.length (adrRow l) rfl ?ow ⟨w.heap.size + 1, 0, none⟩ 1 1 [.int .i64 fam, .string ip, .int .i64 port] rfl rfl ?hn ?h1 ?h63 ?hby ?hba ?_)
  case ow => exact (HO.out.new (((Mod.refl _ _).alloc _).alloc _)).row
  case hn => exact three_newM _ _ (by simp) _ _ _ _
  case h1 => intro u hu; simp at hu; rcases hu with rfl | rfl | rfl <;> rfl
  case h63 => unfold maxLen; omega
  case hby => omega
  case hba => simp; omega
  intro o' w' r' g' _ hat
  have O' := hid (ownA_of (x := ⟨fam, ip, port⟩) r')
  have N' := hid ((((Mod.refl (fun _ => False) w).alloc (.cells #[.int .i64 fam, .string ip, .int .i64 port] 64)).alloc (.cells #[.int .i64 fam, .string ip, .int .i64 port] 64)).mono (S' := fun k => (Value.slice a l.length c).ownBlock = some k) (fun _ _ q => q.elim) |>.trans (mod_grownS g'))
  have HA := hid hat
  clear r' g' hat
  go_wp2
  go_ret
  refine ⟨_, rfl, O'.out, N'.out, ?_⟩
  rcases HA.out with q | q
  · exact .inl q
  · exact .inr ⟨_, q, by show w.heap.size ≤ _; omega⟩
end Go.Proofs.YtbgmkplpolgebaaGreatDoor

namespace Go.Proofs.YtbgmkplpolgebaaGreatDoor
set_option linter.unusedSimpArgs false
set_option linter.unusedVariables false

/-- '%2' and c replaced by a comma. -/
def rep (c : UInt8) : List UInt8 → List UInt8
  | x :: y :: z :: r => if x = 37 ∧ y = 50 ∧ z = c then 44 :: rep c r else x :: rep c (y :: z :: r)
  | s => s
theorem rep_hit (c : UInt8) (r : List UInt8) : rep c (37 :: 50 :: c :: r) = 44 :: rep c r := by
  rw [rep, if_pos ⟨rfl, rfl, rfl⟩]
theorem rep_no (c x : UInt8) (t : List UInt8) (h : ¬ (x = 37 ∧ ∃ u, t = 50 :: c :: u)) : rep c (x :: t) = x :: rep c t := by
  match t, h with
  | [], _ => rfl
  | [y], _ => rfl
  | y :: z :: r, h =>
    rw [rep, if_neg]
    rintro ⟨h1, h2, h3⟩
    exact h ⟨h1, r, by rw [h2, h3]⟩
theorem rep_head (c y : UInt8) (l : List UInt8) : ∃ h t, rep c (y :: l) = h :: t ∧ (h = y ∨ y = 37 ∧ h = 44) := by
  by_cases q : y = 37 ∧ ∃ u, l = 50 :: c :: u
  · obtain ⟨rfl, u, rfl⟩ := q
    exact ⟨44, rep c u, rep_hit c u, .inr ⟨rfl, rfl⟩⟩
  · exact ⟨y, rep c l, rep_no c y l q, .inl rfl⟩
theorem pre_three (c b : UInt8) (l : List UInt8) : ([37, 50, c] : List UInt8).isPrefixOf (b :: l) = true ↔ (b = 37 ∧ ∃ u, l = 50 :: c :: u) := by
  match l with
  | [] => simp [List.isPrefixOf]
  | [y] => simp [List.isPrefixOf]
  | y :: z :: r =>
    simp only [List.isPrefixOf, Bool.and_eq_true, beq_iff_eq]
    constructor
    · rintro ⟨h1, h2, h3, -⟩
      exact ⟨h1.symm, r, by rw [← h2, ← h3]⟩
    · rintro ⟨h1, u, h2⟩
      injection h2 with h2 h3
      injection h3 with h3 h4
      exact ⟨h1.symm, h2.symm, h3.symm, trivial⟩
theorem rep_index (c : UInt8) : ∀ s : List UInt8, (Lib.index s [37, 50, c] = -1 → rep c s = s) ∧ (∀ i : Nat, Lib.index s [37, 50, c] = i → rep c s = s.take i ++ 44 :: rep c (s.drop (i + 3)))
  | [] => ⟨fun _ => rfl, fun i h => by simp [Lib.index] at h⟩
  | b :: l => by
    obtain ⟨h1, h2⟩ := rep_index c l
    have hge := Lib.index_ge l [37, 50, c]
    rw [Lib.index]
    by_cases q : b = 37 ∧ ∃ u, l = 50 :: c :: u
    · rw [if_pos ((pre_three c b l).2 q)]
      obtain ⟨rfl, u, rfl⟩ := q
      refine ⟨fun h => by omega, fun i h => ?_⟩
      obtain rfl : i = 0 := by omega
      rw [rep_hit]
      rfl
    · rw [if_neg (fun h => q ((pre_three c b l).1 h))]
      rw [rep_no c b l q]
      by_cases e : Lib.index l [37, 50, c] = -1
      · rw [if_pos (by rw [e]; rfl)]
        refine ⟨fun _ => by rw [h1 e], fun i h => by omega⟩
      · rw [if_neg (by rw [beq_iff_eq]; exact e)]
        refine ⟨fun h => by omega, fun i h => ?_⟩
        obtain ⟨j, rfl⟩ : ∃ j, i = j + 1 := ⟨i - 1, by omega⟩
        rw [h2 j (by omega), show j + 1 + 3 = (j + 3) + 1 by omega, List.drop_succ_cons, List.take_succ_cons]
        rfl
theorem repK (c : UInt8) : ∀ (k : Nat) (s : List UInt8), s.length = k → Lib.replaceK [37, 50, c] [44] (Lib.count s [37, 50, c]) s = rep c s := by
  intro k
  induction k using Nat.strongRecOn with
  | ind k ih =>
    intro s hk
    obtain ⟨h1, h2⟩ := rep_index c s
    have hge := Lib.index_ge s [37, 50, c]
    by_cases e : Lib.index s [37, 50, c] = -1
    · rw [Lib.count_miss e, Lib.replaceK, h1 e]
    · obtain ⟨i, hi⟩ : ∃ i : Nat, Lib.index s [37, 50, c] = i := ⟨(Lib.index s [37, 50, c]).toNat, by omega⟩
      have hr := Lib.index_room s [37, 50, c] (by omega)
      rw [hi] at hr
      simp only [List.length_cons, List.length_nil] at hr
      rw [Lib.count_hit (by simp) hi, Nat.add_comm, Lib.replaceK_hit _ _ _ _ _ hi, h2 i hi]
      simp only [List.length_cons, List.length_nil]
      rw [ih (s.length - (i + 3)) (by omega) (s.drop (i + 3)) (by rw [List.length_drop])]
      simp
theorem repAll (c : UInt8) (s : List UInt8) : Lib.replaceAll s [37, 50, c] [44] = rep c s := by
  unfold Lib.replaceAll Lib.replace
  rw [if_neg (by simp)]
  unfold Lib.replaceNum
  rw [if_pos (.inl (by decide))]
  exact repK c s.length s rfl
/-- Both in one pass. -/
def rep2 : List UInt8 → List UInt8
  | x :: y :: z :: r => if x = 37 ∧ y = 50 ∧ (z = 67 ∨ z = 99) then 44 :: rep2 r else x :: rep2 (y :: z :: r)
  | s => s
theorem rep2_eq : ∀ (k : Nat) (s : List UInt8), s.length = k → rep 99 (rep 67 s) = rep2 s := by
  intro k
  induction k using Nat.strongRecOn with
  | ind k ih =>
    intro s hk
    match s, hk with
    | [], _ => rfl
    | [x], _ => rfl
    | [x, y], _ => rfl
    | x :: y :: z :: r, hk =>
      simp only [List.length_cons] at hk
      rw [rep2]
      by_cases q : x = 37 ∧ y = 50 ∧ (z = 67 ∨ z = 99)
      · rw [if_pos q]
        obtain ⟨rfl, rfl, hz⟩ := q
        rcases hz with rfl | rfl
        · rw [rep_hit, rep_no 99 44 _ (by rintro ⟨h, -⟩; exact absurd h (by decide)), ih r.length (by omega) r rfl]
        · have e : rep 67 (37 :: 50 :: 99 :: r) = 37 :: 50 :: 99 :: rep 67 r := by
            rw [rep_no 67 37 _ (by
              rintro ⟨-, u, h⟩
              injection h with _ h
              injection h with h _
              exact absurd h (by decide)), rep_no 67 50 _ (by rintro ⟨h, -⟩; exact absurd h (by decide)), rep_no 67 99 _ (by rintro ⟨h, -⟩; exact absurd h (by decide))]
          rw [e, rep_hit, ih r.length (by omega) r rfl]
      · rw [if_neg q]
        have n67 : ¬ (x = 37 ∧ ∃ u, y :: z :: r = 50 :: 67 :: u) := by
          rintro ⟨h1, u, h2⟩
          injection h2 with h2 h3
          injection h3 with h3 _
          exact q ⟨h1, h2, .inl h3⟩
        rw [rep_no 67 x _ n67, rep_no 99 x, ih (r.length + 2) (by omega) (y :: z :: r) (by simp)]
        rintro ⟨h1, u, h2⟩
        by_cases hy : y = 50
        · subst hy
          rw [rep_no 67 50 _ (by rintro ⟨h, -⟩; exact absurd h (by decide))] at h2
          injection h2 with _ h2
          obtain ⟨h, t, e, hh⟩ := rep_head 67 z r
          rw [e] at h2
          injection h2 with h2 _
          rcases hh with rfl | ⟨rfl, rfl⟩
          · exact q ⟨h1, rfl, .inr h2⟩
          · exact absurd h2 (by decide)
        · obtain ⟨h, t, e, hh⟩ := rep_head 67 y (z :: r)
          rw [e] at h2
          injection h2 with h2 _
          rcases hh with rfl | ⟨rfl, rfl⟩
          · exact hy h2
          · exact absurd h2 (by decide)
theorem rep_len (c : UInt8) : ∀ (k : Nat) (s : List UInt8), s.length = k → (rep c s).length ≤ s.length := by
  intro k
  induction k using Nat.strongRecOn with
  | ind k ih =>
    intro s hk
    match s, hk with
    | [], _ => exact Nat.le_refl _
    | [x], _ => exact Nat.le_refl _
    | [x, y], _ => exact Nat.le_refl _
    | x :: y :: z :: r, hk =>
      simp only [List.length_cons] at hk
      rw [rep]
      split
      · have := ih r.length (by omega) r rfl
        simp only [List.length_cons]
        omega
      · have := ih (r.length + 2) (by omega) (y :: z :: r) (by simp)
        simp only [List.length_cons] at *
        omega
end Go.Proofs.YtbgmkplpolgebaaGreatDoor

namespace Go.Proofs.YtbgmkplpolgebaaGreatDoor
set_option linter.unusedSimpArgs false
set_option linter.unusedVariables false

/-- A magnet under way. -/
structure MgV where
  old : ByteArray
  new : ByteArray
  name : ByteArray
  tr : List ByteArray
  pe : List AdrV
  ws : List ByteArray
  on : List (Int × Int)
  named : Bool
  only : Bool
def mg0 : MgV := ⟨⟨#[]⟩, ⟨#[]⟩, ⟨#[]⟩, [], [], [], [], false, false⟩
def rdZero (m : MgV) : RdM := ⟨m.old, m.new, m.name, .slice none 0 0, .slice none 0 0, .slice none 0 0, .slice none 0 0, m.named, m.only⟩
/-- A topic read. -/
def topM (m : MgV) (s : ByteArray) : Except Int MgV := match topicR (rdZero m) s with
  | .ok r => .ok { m with old := r.old, new := r.new }
  | .error k => .error k
def nameM (m : MgV) (s : List UInt8) : Except Int MgV := match loose s with
  | none => .error 2
  | some x => if 100 < x.length then .error 2 else if m.named then .error 6 else .ok { m with name := mkB x, named := true }
/-- A text of a list read. -/
def textP (l : List ByteArray) (s : List UInt8) : Except Int (List ByteArray) := match loose s with
  | none => .error 2
  | some x => if x = [] ∨ 200 < x.length then .error 2 else if 10 ≤ l.length then .error 4 else .ok (l ++ [mkB x])
def trM (m : MgV) (s : List UInt8) : Except Int MgV := match textP m.tr s with
  | .ok l => .ok { m with tr := l }
  | .error k => .error k
def wsM (m : MgV) (s : List UInt8) : Except Int MgV := match textP m.ws s with
  | .ok l => .ok { m with ws := l }
  | .error k => .error k
def peM (m : MgV) (s : List UInt8) : Except Int MgV := match loose s with
  | none => .error 2
  | some x => match aP x with
    | none => .error 2
    | some a => if 20 ≤ m.pe.length then .error 4 else .ok { m with pe := m.pe ++ [a] }
def soM (m : MgV) (s : List UInt8) : Except Int MgV := match bitsP 40 (rep2 s) with
  | none => .error 2
  | some f => if rep2 s = [] then .error 2 else if m.only then .error 6 else .ok { m with on := runsF 40 f, only := true }
/-- A part read. -/
def partM (m : MgV) (key value : List UInt8) : Except Int MgV :=
  if key = pXt.data.toList then topM m (mkB value)
  else if key = pDn.data.toList then nameM m value
  else if key = pTr.data.toList then trM m value
  else if key = pWs.data.toList then wsM m value
  else if key = pPe.data.toList then peM m value
  else if key = pSo.data.toList then soM m value
  else .ok m
/-- A part with its '='. -/
def pieceM (m : MgV) (p : List UInt8) : Except Int MgV := if (cutB 61 p).2.2 = true then partM m (cutB 61 p).1 (cutB 61 p).2.1 else .error 2
def foldM (m : MgV) : List (List UInt8) → Except Int MgV
  | [] => .ok m
  | p :: r => match pieceM m p with
    | .error k => .error k
    | .ok m1 => foldM m1 r
def endM (m : MgV) : Except Int MgV := if m.old.data.toList = [] ∧ m.new.data.toList = [] then .error 8 else .ok m
def kHead : List UInt8 := [109, 97, 103, 110, 101, 116, 58, 63]
def restM (rest : List UInt8) : Except Int MgV := match foldM mg0 (if rest = [] then [] else pieces [] 38 rest) with
  | .error k => .error k
  | .ok m => endM m
def magP (s : List UInt8) : Except Int MgV := if 65536 < s.length then .error 3 else if kHead.isPrefixOf s = true then restM (s.drop 8) else .error 2
theorem foldM_app : ∀ (A B : List (List UInt8)) (m : MgV), foldM m (A ++ B) = match foldM m A with
    | .error k => .error k
    | .ok m1 => foldM m1 B
  | [], B, m => rfl
  | p :: A, B, m => by
    show (match pieceM m p with | .error k => (.error k : Except Int MgV) | .ok m1 => foldM m1 (A ++ B)) = _
    simp only [foldM]
    cases pieceM m p with
    | error k => rfl
    | ok m1 => exact foldM_app A B m1
theorem foldM_next {A : List (List UInt8)} {m m1 m2 : MgV} {p : List UInt8} (h : foldM m A = .ok m1) (hp : pieceM m1 p = .ok m2) : foldM m (A ++ [p]) = .ok m2 := by
  rw [foldM_app, h]
  simp only [foldM]
  rw [hp]
theorem foldM_bad {A B : List (List UInt8)} {m m1 : MgV} {p : List UInt8} {k : Int} (h : foldM m A = .ok m1) (hp : pieceM m1 p = .error k) : foldM m (A ++ p :: B) = .error k := by
  rw [foldM_app, h]
  simp only [foldM]
  rw [hp]
theorem tO_map (r : RdM) (m : MgV) (s : ByteArray) (ho : r.old = m.old) (hn : r.new = m.new) : tO r s = match tO (rdZero m) s with
    | .ok q => .ok { r with old := q.old, new := q.new }
    | .error k => .error k := by
  unfold tO rdZero
  simp only [ho]
  split
  · split
    · rfl
    · split
      · rfl
      · split
        · rfl
        · simp only [hn]
  · simp only [← ho, ← hn]
theorem tO_rest {r r' : RdM} {s : ByteArray} (h : tO r s = .ok r') : r'.name = r.name ∧ r'.tr = r.tr ∧ r'.pe = r.pe ∧ r'.ws = r.ws ∧ r'.on = r.on ∧ r'.named = r.named ∧ r'.only = r.only ∧ r'.new = r.new := by
  unfold tO at h
  split at h
  · split at h
    · cases h
    · split at h
      · cases h
      · split at h
        · cases h
        · injection h with h
          subst h
          exact ⟨rfl, rfl, rfl, rfl, rfl, rfl, rfl, rfl⟩
  · injection h with h
    subst h
    exact ⟨rfl, rfl, rfl, rfl, rfl, rfl, rfl, rfl⟩
theorem tN_rest {r r' : RdM} {s : ByteArray} (h : tN r s = .ok r') : r'.name = r.name ∧ r'.tr = r.tr ∧ r'.pe = r.pe ∧ r'.ws = r.ws ∧ r'.on = r.on ∧ r'.named = r.named ∧ r'.only = r.only ∧ r'.old = r.old := by
  unfold tN at h
  split at h
  · split at h
    · cases h
    · split at h
      · cases h
      · split at h
        · cases h
        · injection h with h
          subst h
          exact ⟨rfl, rfl, rfl, rfl, rfl, rfl, rfl, rfl⟩
  · injection h with h
    subst h
    exact ⟨rfl, rfl, rfl, rfl, rfl, rfl, rfl, rfl⟩
theorem tN_map (r q : RdM) (s : ByteArray) (hn : r.new = q.new) : tN r s = match tN q s with
    | .ok q' => .ok { r with new := q'.new }
    | .error k => .error k := by
  unfold tN
  simp only [hn]
  split
  · split
    · rfl
    · split
      · rfl
      · split <;> rfl
  · simp only [← hn]
/-- The topic, whatever else the reader holds. -/
theorem topM_yes {m m' : MgV} {r : RdM} {s : ByteArray} (ho : r.old = m.old) (hn : r.new = m.new) (h : topM m s = .ok m') : topicR r s = .ok { r with old := m'.old, new := m'.new } ∧ m' = { m with old := m'.old, new := m'.new } := by
  unfold topM topicR at h
  unfold topicR
  rw [tO_map r m s ho hn]
  cases h1 : tO (rdZero m) s with
  | error k => rw [h1] at h; cases h
  | ok q =>
    rw [h1] at h
    simp only at h ⊢
    have e := tN_map { r with old := q.old, new := q.new } q s rfl
    rw [e]
    cases h2 : tN q s with
    | error k => rw [h2] at h; cases h
    | ok q' =>
      rw [h2] at h
      injection h with h
      subst h
      have := (tN_rest h2).2.2.2.2.2.2.2
      simp [this]
theorem topM_no {m : MgV} {r : RdM} {s : ByteArray} {k : Int} (ho : r.old = m.old) (hn : r.new = m.new) (h : topM m s = .error k) : topicR r s = .error k := by
  unfold topM topicR at h
  unfold topicR
  rw [tO_map r m s ho hn]
  cases h1 : tO (rdZero m) s with
  | error k' => rw [h1] at h; simp only at h ⊢; injection h with h; rw [h]
  | ok q =>
    rw [h1] at h
    simp only at h ⊢
    have e := tN_map { r with old := q.old, new := q.new } q s rfl
    rw [e]
    cases h2 : tN q s with
    | error k' => rw [h2] at h; injection h with h; rw [h]
    | ok q' => rw [h2] at h; cases h
theorem nameM_yes {m m' : MgV} {r : RdM} {s : List UInt8} (hd : r.named = m.named) (h : nameM m s = .ok m') : dnR r s = .ok { r with name := m'.name, named := true } ∧ m' = { m with name := m'.name, named := true } := by
  unfold nameM at h
  unfold dnR
  cases hl : loose s with
  | none => rw [hl] at h; cases h
  | some x =>
    rw [hl] at h
    simp only at h ⊢
    split at h
    · cases h
    · next c =>
      split at h
      · cases h
      · next c2 =>
        injection h with h
        subst h
        rw [if_neg c, if_neg (by rw [hd]; exact c2)]
        exact ⟨rfl, rfl⟩
theorem nameM_no {m : MgV} {r : RdM} {s : List UInt8} {k : Int} (hd : r.named = m.named) (h : nameM m s = .error k) : dnR r s = .error k := by
  unfold nameM at h
  unfold dnR
  cases hl : loose s with
  | none => rw [hl] at h; injection h with h; rw [h]
  | some x =>
    rw [hl] at h
    simp only at h ⊢
    split at h
    · next c => rw [if_pos c]; injection h with h; rw [h]
    · next c =>
      split at h
      · next c2 => rw [if_neg c, if_pos (by rw [hd]; exact c2)]; injection h with h; rw [h]
      · cases h
end Go.Proofs.YtbgmkplpolgebaaGreatDoor
