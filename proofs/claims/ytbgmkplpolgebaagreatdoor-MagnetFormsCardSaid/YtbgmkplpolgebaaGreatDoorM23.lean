/-
  Several texts in one, in their build order. A list of texts of the call's own, several of them side by side; the walks of text and added (package magnet). Conditions as told. A list of addresses of the call's own; the walk of added for addresses (package magnet). Conditions as told. What a reader holds, with its own lists side by side. Plain facts on worlds. Conditions as told. The library's FormatUint at base 16, of numbers below 65536. Condition: the library's table of trailing zeros is as laid.
-/
import Derived.Test.YtbgmkplpolgebaaGreatDoorM8
import Derived.Maps.AppendAt
import Derived.Test.YtbgmkplpolgebaaGreatDoorM10
import Derived.Test.YtbgmkplpolgebaaGreatDoorM11
import Derived.Test.YtbgmkplpolgebaaGreatDoorM14
import Derived.Test.YtbgmkplpolgebaaGreatDoorM19
namespace Go.Proofs.YtbgmkplpolgebaaGreatDoor
set_option linter.unusedSimpArgs false
set_option linter.unusedVariables false
open Go.RowKit Go.Shelf

theorem info_strM : (Tryz.prog.info? 9).map (fun i => (i.zero, i.size, i.bytes)) = some (some (.string ⟨#[]⟩), 1, 16) := by kernel_rfl
/-- The slice v, of the call's own memory from block base on, holds the texts l. -/
structure OwnS (w : World) (base : Nat) (v : Value) (l : List ByteArray) : Prop where
  row : w.ownsRow base 9 1 v l.length (l.map Value.string)
  small : ∀ s ∈ l, s.size ≤ maxLen
theorem OwnS.nil (w : World) (base : Nat) : OwnS w base (.slice none 0 0) [] := ⟨World.ownsRow_nil _ _ _ _, by simp⟩
theorem OwnS.block {w : World} {base g : Nat} {v : Value} {l : List ByteArray} (h : OwnS w base v l) (hv : v.ownBlock = some g) : base ≤ g ∧ g < w.heap.size := by
  rcases h.row.2 with ⟨rfl, hn⟩ | ⟨g', cap, cur, rfl, hbg, hg, -⟩
  · cases hv
  · injection hv with hv
    subst hv
    exact ⟨hbg, (Array.getElem?_eq_some_iff.1 hg).1⟩
theorem OwnS.mod {S : Nat → Prop} {w w' : World} {base : Nat} {v : Value} {l : List ByteArray} (h : OwnS w base v l) (n : Mod S w w') (hs : ∀ k, v.ownBlock = some k → ¬ S k) : OwnS w' base v l := by
  refine ⟨?_, h.small⟩
  rcases h.row.2 with ⟨rfl, hn⟩ | ⟨g, cap, cur, rfl, hbg, hg, r⟩
  · exact ⟨h.row.1, .inl ⟨rfl, hn⟩⟩
  · have hlt := (Array.getElem?_eq_some_iff.1 hg).1
    exact ⟨h.row.1, .inr ⟨g, cap, cur, rfl, hbg, (n.block g hlt (hs g rfl)).trans hg, r⟩⟩
theorem OwnS.new {w w' : World} {base : Nat} {v : Value} {l : List ByteArray} (h : OwnS w base v l) (n : New w w') : OwnS w' base v l := h.mod n (fun _ _ x => x)
theorem OwnS.form {w : World} {base : Nat} {v : Value} {l : List ByteArray} (h : OwnS w base v l) : ∃ a c, v = .slice a l.length c := by
  rcases h.row.2 with ⟨rfl, hn⟩ | ⟨g, cap, cur, rfl, hbg, hg, hnc, hcm, hcs, htake⟩
  · have : l = [] := List.eq_nil_of_length_eq_zero hn
    subst this
    exact ⟨none, 0, rfl⟩
  · exact ⟨some ⟨g, 0, none⟩, cap, rfl⟩
theorem ownS_of {w : World} {base : Nat} {v : Value} {l : List ByteArray} {s : ByteArray} (hl : ∀ s ∈ l, s.size ≤ maxLen) (hs : s.size ≤ maxLen) (h : w.ownsRow base 9 1 v (l.length + 1) (l.map Value.string ++ [.string s])) : OwnS w base v (l ++ [s]) := by
  refine ⟨by rw [List.length_append, List.map_append]; exact h, fun x hx => ?_⟩
  rcases List.mem_append.1 hx with q | q
  · exact hl x q
  · simp only [List.mem_singleton] at q
    rw [q]
    exact hs
theorem mod_grownS {w w' : World} {v : Value} (g : w.grownBy w' v.ownBlock) : Mod (fun k => v.ownBlock = some k) w w' :=
  ⟨g.os, g.tape, g.output, g.size, fun k hk hx => g.block k hk (fun q => hx q.symm)⟩
/-- text: one byte at least, 200 at most. -/
def textM (x : ByteArray) : Bool := decide (1 ≤ x.size) && decide (x.size ≤ 200)
theorem text_any (x : ByteArray) (w : World) : Calls Tryz.prog 32 #[.string x] w fun e w' => e = .returned (.bool (textM x)) ∧ w = w' := by
  unfold textM
  by_cases h1 : 1 ≤ x.size
  · have h1I : (1 : Int) ≤ (x.size : Int) := by omega
    by_cases h2 : x.size ≤ 200
    · have h2I : (x.size : Int) ≤ 200 := by omega
      rw [decide_eq_true h1, decide_eq_true h2]
      clear h1 h2
      go_enter Tryz.func32, Tryz.ntmps32
      go_wp2
      go_ret
      exact ⟨rfl, rfl⟩
    · have h2I : ¬ (x.size : Int) ≤ 200 := by omega
      rw [decide_eq_true h1, decide_eq_false h2]
      clear h1 h2
      go_enter Tryz.func32, Tryz.ntmps32
      go_wp2
      go_ret
      exact ⟨rfl, rfl⟩
  · have h1I : ¬ (1 : Int) ≤ (x.size : Int) := by omega
    rw [decide_eq_false h1]
    clear h1
    go_enter Tryz.func32, Tryz.ntmps32
    go_wp2
    go_ret
    exact ⟨rfl, rfl⟩
theorem added_no (base : Nat) (v : Value) (l : List ByteArray) (x : ByteArray) (w : World) (h : OwnS w base v l) (hl : 10 ≤ l.length) :
    Calls Tryz.prog 73 #[v, .string x, .int .i64 10] w fun e w' => e = .panicked (toldM 4) ∧ w = w' := by
  obtain ⟨a, c, rfl⟩ := h.form
  have hI : ¬ (l.length : Int) < 10 := by omega
  have hd : decide ((l.length : Int) < 10) = false := decide_eq_false hI
  clear h hl
  go_enter Tryz.func73, Tryz.ntmps73
  go_wp2_with fail
  refine (need_no 4 _).mono ?_
  rintro e w1 ⟨rfl, rfl⟩
  go_wp2
  exact ⟨rfl, rfl, rfl⟩
set_option maxHeartbeats 1000000 in
theorem added_yes (base : Nat) (v : Value) (l : List ByteArray) (x : ByteArray) (w : World) (h : OwnS w base v l) (hl : l.length < 10) (hx : x.size ≤ maxLen) (hb : base ≤ w.heap.size) :
    Calls Tryz.prog 73 #[v, .string x, .int .i64 10] w fun e w' => ∃ o, e = .returned o ∧ OwnS w' base o (l ++ [x]) ∧ Mod (fun k => v.ownBlock = some k) w w' ∧ (o.ownBlock = v.ownBlock ∨ ∃ g, o.ownBlock = some g ∧ w.heap.size ≤ g) := by
  obtain ⟨i0, hi, hz0, hz1, hz2⟩ := info_parts info_strM
  have HO := hid h
  have HSM := hid h.small
  have HX := hid hx
  obtain ⟨a, c, rfl⟩ := h.form
  obtain ⟨V, hV⟩ : ∃ V : Value, V = .slice a l.length c := ⟨_, rfl⟩
  have HVV := hid hV
  have hI : (l.length : Int) < 10 := by omega
  have hd : decide ((l.length : Int) < 10) = true := decide_eq_true hI
  clear h hl hx hV
  go_enter Tryz.func73, Tryz.ntmps73
  go_wp2_with fail
  refine (need_yes 4 _).mono ?_
  rintro e w1 ⟨rfl, rfl⟩
  go_wp2_with (at_builtin; refine wpList_append_own_at _ rfl _ _ 23 rfl base 9 i0 _ 1 16 Tryz.underlying23 hi hz0 hz1 hz2 rfl (by decide) _ l.length (l.map Value.string) rfl ?ow ⟨w.heap.size, 0, none⟩ 1 1 [.string x] rfl rfl ?hn ?h1 ?h63 ?hby ?hba ?_)
  case ow => exact (HO.out.new ((Mod.refl _ _).alloc _)).row
  case hn => exact cell_one_new _ _ _
  case h1 => intro u hu; simp at hu; subst hu; rfl
  case h63 => unfold maxLen; omega
  case hby => omega
  case hba => simp; omega
  intro o' w' r' g' _ hat
  have O' := hid (ownS_of HSM.out HX.out r')
  have N' := hid ((((Mod.refl (fun _ => False) w).alloc (.cells #[.string x] 9)).mono (S' := fun k => (Value.slice a l.length c).ownBlock = some k) (fun _ _ q => q.elim)).trans (mod_grownS g'))
  have HA := hid hat
  clear r' g' hat
  go_wp2
  go_ret
  refine ⟨_, rfl, O'.out, N'.out, ?_⟩
  rcases HA.out with q | q
  · exact .inl q
  · exact .inr ⟨_, q, by simp⟩
end Go.Proofs.YtbgmkplpolgebaaGreatDoor

namespace Go.Proofs.YtbgmkplpolgebaaGreatDoor
set_option linter.unusedSimpArgs false
set_option linter.unusedVariables false
open Go.RowKit Go.Shelf

def adrCells (x : AdrV) : List Value := [.int .i64 x.fam, .string x.ip, .int .i64 x.port]
def adrVM (x : AdrV) : Value := .agg #[.int .i64 x.fam, .string x.ip, .int .i64 x.port]
def adrRow : List AdrV → List Value
  | [] => []
  | x :: r => adrCells x ++ adrRow r
theorem adrRow_app : ∀ (A B : List AdrV), adrRow (A ++ B) = adrRow A ++ adrRow B
  | [], B => rfl
  | x :: r, B => by
    show adrCells x ++ adrRow (r ++ B) = adrCells x ++ adrRow r ++ adrRow B
    rw [adrRow_app r B, List.append_assoc]
theorem adrRow_at : ∀ {A : List AdrV} {i j : Nat} {x : AdrV}, A[i]? = some x → j < 3 → (adrRow A)[i * 3 + j]? = (adrCells x)[j]?
  | [], i, j, x, h, hj => by cases h
  | y :: r, 0, j, x, h, hj => by
    injection h with h
    subst h
    show (adrCells y ++ adrRow r)[0 * 3 + j]? = _
    rw [List.getElem?_append_left (by show 0 * 3 + j < 3; omega), Nat.zero_mul, Nat.zero_add]
  | y :: r, i + 1, j, x, h, hj => by
    have := adrRow_at (A := r) (i := i) (j := j) h hj
    show (adrCells y ++ adrRow r)[(i + 1) * 3 + j]? = _
    rw [List.getElem?_append_right (by show 3 ≤ (i + 1) * 3 + j; omega)]
    rw [show (i + 1) * 3 + j - (adrCells y).length = i * 3 + j by show (i + 1) * 3 + j - 3 = _; omega]
    exact this
theorem info_adrM : (Tryz.prog.info? 64).map (fun i => (i.zero, i.size, i.bytes)) = some (some (.agg #[.int .i64 0, .string ⟨#[]⟩, .int .i64 0]), 3, 32) := by kernel_rfl
theorem three_newM (w : World) (b : Nat) (hb : b = w.heap.size) (x y z : Value) (t : TypeId) : ∀ (j : Nat) (u : Value), [x, y, z][j]? = some u → (w.alloc (.cells #[x, y, z] t)).cell? ((⟨b, 0, none⟩ : Addr).add j) = some u := by
  subst hb
  intro j u hj
  have B := Blk.new w #[x, y, z] t
  rw [show (⟨w.heap.size, 0, none⟩ : Addr).add j = ⟨w.heap.size, 0 + j, none⟩ by unfold Addr.add; split <;> simp_all, Nat.zero_add]
  exact B.cellv j (by simpa using hj)
/-- The slice v, of the call's own memory from block base on, holds the addresses l. -/
structure OwnA (w : World) (base : Nat) (v : Value) (l : List AdrV) : Prop where
  row : w.ownsRow base 64 3 v l.length (adrRow l)
theorem OwnA.nil (w : World) (base : Nat) : OwnA w base (.slice none 0 0) [] := ⟨World.ownsRow_nil _ _ _ _⟩
theorem OwnA.block {w : World} {base g : Nat} {v : Value} {l : List AdrV} (h : OwnA w base v l) (hv : v.ownBlock = some g) : base ≤ g ∧ g < w.heap.size := by
  rcases h.row.2 with ⟨rfl, hn⟩ | ⟨g', cap, cur, rfl, hbg, hg, -⟩
  · cases hv
  · injection hv with hv
    subst hv
    exact ⟨hbg, (Array.getElem?_eq_some_iff.1 hg).1⟩
theorem OwnA.mod {S : Nat → Prop} {w w' : World} {base : Nat} {v : Value} {l : List AdrV} (h : OwnA w base v l) (n : Mod S w w') (hs : ∀ k, v.ownBlock = some k → ¬ S k) : OwnA w' base v l := by
  refine ⟨?_⟩
  rcases h.row.2 with ⟨rfl, hn⟩ | ⟨g, cap, cur, rfl, hbg, hg, r⟩
  · exact ⟨h.row.1, .inl ⟨rfl, hn⟩⟩
  · have hlt := (Array.getElem?_eq_some_iff.1 hg).1
    exact ⟨h.row.1, .inr ⟨g, cap, cur, rfl, hbg, (n.block g hlt (hs g rfl)).trans hg, r⟩⟩
theorem OwnA.new {w w' : World} {base : Nat} {v : Value} {l : List AdrV} (h : OwnA w base v l) (n : New w w') : OwnA w' base v l := h.mod n (fun _ _ x => x)
theorem OwnA.form {w : World} {base : Nat} {v : Value} {l : List AdrV} (h : OwnA w base v l) : ∃ a c, v = .slice a l.length c := by
  rcases h.row.2 with ⟨rfl, hn⟩ | ⟨g, cap, cur, rfl, hbg, hg, hnc, hcm, hcs, htake⟩
  · have : l = [] := List.eq_nil_of_length_eq_zero hn
    subst this
    exact ⟨none, 0, rfl⟩
  · exact ⟨some ⟨g, 0, none⟩, cap, rfl⟩
theorem ownA_of {w : World} {base : Nat} {v : Value} {l : List AdrV} {x : AdrV} (h : w.ownsRow base 64 3 v (l.length + 1) (adrRow l ++ adrCells x)) : OwnA w base v (l ++ [x]) := by
  refine ⟨?_⟩
  rw [List.length_append, adrRow_app, show adrRow [x] = adrCells x from List.append_nil _]
  exact h
theorem aadded_no (base : Nat) (v : Value) (l : List AdrV) (x : AdrV) (w : World) (h : OwnA w base v l) (hl : 20 ≤ l.length) :
    Calls Tryz.prog 80 #[v, adrVM x, .int .i64 20] w fun e w' => e = .panicked (toldM 4) ∧ New w w' := by
  obtain ⟨a, c, rfl⟩ := h.form
  have hI : ¬ (l.length : Int) < 20 := by omega
  have hd : decide ((l.length : Int) < 20) = false := decide_eq_false hI
  unfold adrVM
  clear h hl
  go_enter Tryz.func80, Tryz.ntmps80
  go_wp2_with fail
  refine (need_no 4 _).mono ?_
  rintro e w1 ⟨rfl, rfl⟩
  go_wp2
  exact ⟨rfl, rfl, (Mod.refl _ _).alloc _⟩
set_option maxHeartbeats 1000000 in
theorem aadded_yes (base : Nat) (v : Value) (l : List AdrV) (x : AdrV) (w : World) (h : OwnA w base v l) (hl : l.length < 20) (hb : base ≤ w.heap.size) :
    Calls Tryz.prog 80 #[v, adrVM x, .int .i64 20] w fun e w' => ∃ o, e = .returned o ∧ OwnA w' base o (l ++ [x]) ∧ Mod (fun k => v.ownBlock = some k) w w' ∧ (o.ownBlock = v.ownBlock ∨ ∃ g, o.ownBlock = some g ∧ w.heap.size ≤ g) := by
  obtain ⟨i0, hi, hz0, hz1, hz2⟩ := info_parts info_adrM
  have HO := hid h
  obtain ⟨fam, ip, port⟩ := x
  obtain ⟨a, c, rfl⟩ := h.form
  obtain ⟨V, hV⟩ : ∃ V : Value, V = .slice a l.length c := ⟨_, rfl⟩
  have HVV := hid hV
  have hI : (l.length : Int) < 20 := by omega
  have hd : decide ((l.length : Int) < 20) = true := decide_eq_true hI
  have B0 := Blk.new w #[.int .i64 fam, .string ip, .int .i64 port] 64
  have c0 := B0.cellv 0 rfl; have c1 := B0.cellv 1 rfl; have c2 := B0.cellv 2 rfl
  unfold adrVM
  simp only
  clear h hl hV B0
  go_enter Tryz.func80, Tryz.ntmps80
  go_wp2_with fail
  refine (need_yes 4 _).mono ?_
  rintro e w1 ⟨rfl, rfl⟩
  go_wp2_with (at_builtin; refine wpList_append_own_at _ rfl _ _ 24 rfl base 64 i0 _ 3 32 Tryz.underlying24 hi hz0 hz1 hz2 rfl (by decide) (.slice a l.length c) l.length (adrRow l) rfl ?ow ⟨w.heap.size + 1, 0, none⟩ 1 1 [.int .i64 fam, .string ip, .int .i64 port] rfl rfl ?hn ?h1 ?h63 ?hby ?hba ?_)
  case ow => exact (HO.out.new (((Mod.refl _ _).alloc _).alloc _)).row
  case hn => exact three_newM _ _ (by simp) _ _ _ _
  case h1 => intro u hu; simp at hu; rcases hu with rfl | rfl | rfl <;> rfl
  case h63 => unfold maxLen; omega
  case hby => omega
  case hba => simp; omega
  intro o' w' r' g' _ hat
  have O' := hid (ownA_of (x := ⟨fam, ip, port⟩) r')
  have N' := hid ((((Mod.refl (fun _ => False) w).alloc (.cells #[.int .i64 fam, .string ip, .int .i64 port] 64)).alloc (.cells #[.int .i64 fam, .string ip, .int .i64 port] 64)).mono (S' := fun k => (Value.slice a l.length c).ownBlock = some k) (fun _ _ q => q.elim) |>.trans (mod_grownS g'))
  have HA := hid hat
  clear r' g' hat
  go_wp2
  go_ret
  refine ⟨_, rfl, O'.out, N'.out, ?_⟩
  rcases HA.out with q | q
  · exact .inl q
  · exact .inr ⟨_, q, by show w.heap.size ≤ _; omega⟩
end Go.Proofs.YtbgmkplpolgebaaGreatDoor

namespace Go.Proofs.YtbgmkplpolgebaaGreatDoor
set_option linter.unusedSimpArgs false
set_option linter.unusedVariables false
open Go.RowKit Go.Shelf

def ApartV (a b : Value) : Prop := ∀ k, a.ownBlock = some k → b.ownBlock ≠ some k
theorem ApartV.symm {a b : Value} (h : ApartV a b) : ApartV b a := fun k h1 h2 => h k h2 h1
theorem rowMod {S : Nat → Prop} {w w' : World} {base : Nat} {e : TypeId} {size : Nat} {v : Value} {n : Nat} {xs : List Value} (h : w.ownsRow base e size v n xs) (m : Mod S w w') (hs : ∀ k, v.ownBlock = some k → ¬ S k) : w'.ownsRow base e size v n xs := by
  rcases h.2 with ⟨rfl, hn⟩ | ⟨g, cap, cur, rfl, hbg, hg, r⟩
  · exact ⟨h.1, .inl ⟨rfl, hn⟩⟩
  · have hlt := (Array.getElem?_eq_some_iff.1 hg).1
    exact ⟨h.1, .inr ⟨g, cap, cur, rfl, hbg, (m.block g hlt (hs g rfl)).trans hg, r⟩⟩
theorem rowBlock {w : World} {base : Nat} {e : TypeId} {size : Nat} {v : Value} {n : Nat} {xs : List Value} (h : w.ownsRow base e size v n xs) {g : Nat} (hv : v.ownBlock = some g) : base ≤ g ∧ g < w.heap.size := by
  rcases h.2 with ⟨rfl, hn⟩ | ⟨g', cap, cur, rfl, hbg, hg, -⟩
  · cases hv
  · injection hv with hv
    subst hv
    exact ⟨hbg, (Array.getElem?_eq_some_iff.1 hg).1⟩
/-- The reader in block B tells m; its lists lie in memory of the call's own, from block base on. -/
structure RdIs (T : TypeId) (w : World) (B base : Nat) (m : MgV) (r : RdM) : Prop where
  blk : Blk w B (rdRow r) T
  old : r.old = m.old
  new : r.new = m.new
  name : r.name = m.name
  named : r.named = m.named
  only : r.only = m.only
  tr : w.ownsRow base 9 1 r.tr m.tr.length (m.tr.map Value.string)
  pe : w.ownsRow base 64 3 r.pe m.pe.length (adrRow m.pe)
  ws : w.ownsRow base 9 1 r.ws m.ws.length (m.ws.map Value.string)
  on : w.ownsRow base 66 2 r.on m.on.length (runRow m.on)
  trs : ∀ s ∈ m.tr, s.size ≤ maxLen
  wss : ∀ s ∈ m.ws, s.size ≤ maxLen
  low : B < base
  a1 : ApartV r.tr r.pe
  a2 : ApartV r.tr r.ws
  a3 : ApartV r.tr r.on
  a4 : ApartV r.pe r.ws
  a5 : ApartV r.pe r.on
  a6 : ApartV r.ws r.on
theorem apart_nil (a : Value) : ApartV (.slice none 0 0) a := fun k h => by cases h
theorem RdIs.zero {T : TypeId} {w : World} {B base : Nat} (hb : Blk w B (rdRow (rdZero mg0)) T) (hl : B < base) : RdIs T w B base mg0 (rdZero mg0) :=
  ⟨hb, rfl, rfl, rfl, rfl, rfl, World.ownsRow_nil _ _ _ _, World.ownsRow_nil _ _ _ _, World.ownsRow_nil _ _ _ _, World.ownsRow_nil _ _ _ _, by simp [mg0], by simp [mg0], hl, apart_nil _, apart_nil _, apart_nil _, apart_nil _, apart_nil _, apart_nil _⟩
/-- What turns no block of the reader. -/
theorem RdIs.mod {T : TypeId} {S : Nat → Prop} {w w' : World} {B base : Nat} {m : MgV} {r : RdM} (h : RdIs T w B base m r) (n : Mod S w w') (hB : ¬ S B) (hs : ∀ k, base ≤ k → k < w.heap.size → ¬ S k) : RdIs T w' B base m r :=
  ⟨n.blk h.blk hB, h.old, h.new, h.name, h.named, h.only, rowMod h.tr n (fun k q => hs k (rowBlock h.tr q).1 (rowBlock h.tr q).2), rowMod h.pe n (fun k q => hs k (rowBlock h.pe q).1 (rowBlock h.pe q).2), rowMod h.ws n (fun k q => hs k (rowBlock h.ws q).1 (rowBlock h.ws q).2), rowMod h.on n (fun k q => hs k (rowBlock h.on q).1 (rowBlock h.on q).2), h.trs, h.wss, h.low, h.a1, h.a2, h.a3, h.a4, h.a5, h.a6⟩
theorem RdIs.next {T : TypeId} {w w' : World} {B base : Nat} {m : MgV} {r : RdM} (h : RdIs T w B base m r) (n : New w w') : RdIs T w' B base m r := h.mod n (fun x => x) (fun _ _ _ x => x)
/-- The reader's own block turned, the lists not. -/
theorem RdIs.turn {T : TypeId} {w w' : World} {B base : Nat} {m m' : MgV} {r r' : RdM} (h : RdIs T w B base m r) (n : Mod (fun k => k = B) w w') (hb : Blk w' B (rdRow r') T) (e1 : r'.tr = r.tr) (e2 : r'.pe = r.pe) (e3 : r'.ws = r.ws) (e4 : r'.on = r.on) (m1 : m'.tr = m.tr) (m2 : m'.pe = m.pe) (m3 : m'.ws = m.ws) (m4 : m'.on = m.on) (f1 : r'.old = m'.old) (f2 : r'.new = m'.new) (f3 : r'.name = m'.name) (f4 : r'.named = m'.named) (f5 : r'.only = m'.only) : RdIs T w' B base m' r' := by
  have q : ∀ {v : Value} {e : TypeId} {size n' : Nat} {xs : List Value}, w.ownsRow base e size v n' xs → w'.ownsRow base e size v n' xs := fun g => rowMod g n (fun k q => by have := (rowBlock g q).1; have := h.low; omega)
  refine ⟨hb, f1, f2, f3, f4, f5, ?_, ?_, ?_, ?_, ?_, ?_, h.low, ?_, ?_, ?_, ?_, ?_, ?_⟩
  · rw [e1, m1]; exact q h.tr
  · rw [e2, m2]; exact q h.pe
  · rw [e3, m3]; exact q h.ws
  · rw [e4, m4]; exact q h.on
  · rw [m1]; exact h.trs
  · rw [m3]; exact h.wss
  · rw [e1, e2]; exact h.a1
  · rw [e1, e3]; exact h.a2
  · rw [e1, e4]; exact h.a3
  · rw [e2, e3]; exact h.a4
  · rw [e2, e4]; exact h.a5
  · rw [e3, e4]; exact h.a6
theorem apart_put {w : World} {base : Nat} {e : TypeId} {size n : Nat} {xs : List Value} {v o u : Value} (hu : w.ownsRow base e size u n xs) (h : ApartV v u) (hb : o.ownBlock = v.ownBlock ∨ ∃ g, o.ownBlock = some g ∧ w.heap.size ≤ g) : ApartV o u := by
  intro k h1 h2
  rcases hb with q | ⟨g, q, hg⟩
  · rw [q] at h1
    exact h k h1 h2
  · rw [q] at h1
    injection h1 with h1
    have := (rowBlock hu h2).2
    omega
/-- One list grown, and laid into the reader. -/
theorem RdIs.grow (T : TypeId) {w w2 : World} {B base : Nat} {m : MgV} {r : RdM} (h : RdIs T w B base m r) {v o : Value} (hv : ∀ k, v.ownBlock = some k → base ≤ k) (hm : Mod (fun k => v.ownBlock = some k) w w2) (i : Nat) {u : Value} {e : TypeId} {size n : Nat} {xs : List Value} (hu : w.ownsRow base e size u n xs) (ha : ApartV v u) : (w2.setCell ⟨B, i, none⟩ o).ownsRow base e size u n xs := by
  have h2 := rowMod hu hm (fun k q q2 => ha k q2 q)
  refine rowMod h2 ((Mod.refl (fun k => k = B) w2).set ⟨B, i, none⟩ o (.inl rfl)) (fun k q q2 => ?_)
  have := (rowBlock h2 q).1
  have := h.low
  omega
theorem RdIs.trPut {T : TypeId} {w w2 : World} {B base : Nat} {m : MgV} {r : RdM} (h : RdIs T w B base m r) {o : Value} {l : List ByteArray} (hm : Mod (fun k => r.tr.ownBlock = some k) w w2) (ho : OwnS w2 base o l) (hb : o.ownBlock = r.tr.ownBlock ∨ ∃ g, o.ownBlock = some g ∧ w.heap.size ≤ g) : RdIs T (w2.setCell ⟨B, 3, none⟩ o) B base { m with tr := l } { r with tr := o } := by
  have hl := h.low
  have hv : ∀ k, r.tr.ownBlock = some k → base ≤ k := fun k q => (rowBlock h.tr q).1
  have hset : ∀ {e : TypeId} {size n : Nat} {xs : List Value}, w2.ownsRow base e size o n xs → (w2.setCell ⟨B, 3, none⟩ o).ownsRow base e size o n xs := fun g => rowMod g ((Mod.refl (fun k => k = B) w2).set ⟨B, 3, none⟩ o (.inl rfl)) (fun k q q2 => by have := (rowBlock g q).1; omega)
  exact ⟨((hm.blk h.blk (fun q => by have := hv B q; omega)).set 3 o).row rfl, h.old, h.new, h.name, h.named, h.only, hset ho.row, h.grow T hv hm 3 h.pe h.a1, h.grow T hv hm 3 h.ws h.a2, h.grow T hv hm 3 h.on h.a3, ho.small, h.wss, h.low, apart_put h.pe h.a1 hb, apart_put h.ws h.a2 hb, apart_put h.on h.a3 hb, h.a4, h.a5, h.a6⟩
theorem RdIs.pePut {T : TypeId} {w w2 : World} {B base : Nat} {m : MgV} {r : RdM} (h : RdIs T w B base m r) {o : Value} {l : List AdrV} (hm : Mod (fun k => r.pe.ownBlock = some k) w w2) (ho : OwnA w2 base o l) (hb : o.ownBlock = r.pe.ownBlock ∨ ∃ g, o.ownBlock = some g ∧ w.heap.size ≤ g) : RdIs T (w2.setCell ⟨B, 4, none⟩ o) B base { m with pe := l } { r with pe := o } := by
  have hl := h.low
  have hv : ∀ k, r.pe.ownBlock = some k → base ≤ k := fun k q => (rowBlock h.pe q).1
  have hset : ∀ {e : TypeId} {size n : Nat} {xs : List Value}, w2.ownsRow base e size o n xs → (w2.setCell ⟨B, 4, none⟩ o).ownsRow base e size o n xs := fun g => rowMod g ((Mod.refl (fun k => k = B) w2).set ⟨B, 4, none⟩ o (.inl rfl)) (fun k q q2 => by have := (rowBlock g q).1; omega)
  exact ⟨((hm.blk h.blk (fun q => by have := hv B q; omega)).set 4 o).row rfl, h.old, h.new, h.name, h.named, h.only, h.grow T hv hm 4 h.tr h.a1.symm, hset ho.row, h.grow T hv hm 4 h.ws h.a4, h.grow T hv hm 4 h.on h.a5, h.trs, h.wss, h.low, (apart_put h.tr h.a1.symm hb).symm, h.a2, h.a3, apart_put h.ws h.a4 hb, apart_put h.on h.a5 hb, h.a6⟩
theorem RdIs.wsPut {T : TypeId} {w w2 : World} {B base : Nat} {m : MgV} {r : RdM} (h : RdIs T w B base m r) {o : Value} {l : List ByteArray} (hm : Mod (fun k => r.ws.ownBlock = some k) w w2) (ho : OwnS w2 base o l) (hb : o.ownBlock = r.ws.ownBlock ∨ ∃ g, o.ownBlock = some g ∧ w.heap.size ≤ g) : RdIs T (w2.setCell ⟨B, 5, none⟩ o) B base { m with ws := l } { r with ws := o } := by
  have hl := h.low
  have hv : ∀ k, r.ws.ownBlock = some k → base ≤ k := fun k q => (rowBlock h.ws q).1
  have hset : ∀ {e : TypeId} {size n : Nat} {xs : List Value}, w2.ownsRow base e size o n xs → (w2.setCell ⟨B, 5, none⟩ o).ownsRow base e size o n xs := fun g => rowMod g ((Mod.refl (fun k => k = B) w2).set ⟨B, 5, none⟩ o (.inl rfl)) (fun k q q2 => by have := (rowBlock g q).1; omega)
  exact ⟨((hm.blk h.blk (fun q => by have := hv B q; omega)).set 5 o).row rfl, h.old, h.new, h.name, h.named, h.only, h.grow T hv hm 5 h.tr h.a2.symm, h.grow T hv hm 5 h.pe h.a4.symm, hset ho.row, h.grow T hv hm 5 h.on h.a6, h.trs, ho.small, h.low, h.a1, (apart_put h.tr h.a2.symm hb).symm, h.a3, (apart_put h.pe h.a4.symm hb).symm, h.a5, apart_put h.on h.a6 hb⟩
/-- The runs, laid into the reader from new memory. -/
theorem RdIs.onPut {T : TypeId} {w w2 : World} {B base : Nat} {m : MgV} {r : RdM} (h : RdIs T w B base m r) {o : Value} {l : List (Int × Int)} (hm : New w w2) (ho : OwnR w2 base o l) (hb : ∀ k, o.ownBlock = some k → w.heap.size ≤ k) : RdIs T (w2.setCell ⟨B, 6, none⟩ o) B base { m with on := l } { r with on := o } := by
  have hl := h.low
  have h2 := h.next hm
  have q : ∀ {v : Value} {e : TypeId} {size n' : Nat} {xs : List Value}, w2.ownsRow base e size v n' xs → (w2.setCell ⟨B, 6, none⟩ o).ownsRow base e size v n' xs := fun g => rowMod g ((Mod.refl (fun k => k = B) w2).set ⟨B, 6, none⟩ o (.inl rfl)) (fun k q q2 => by have := (rowBlock g q).1; omega)
  have a : ∀ {v : Value} {e : TypeId} {size n' : Nat} {xs : List Value}, w.ownsRow base e size v n' xs → ApartV v o := fun g k h1 h3 => by have := (rowBlock g h1).2; have := hb k h3; omega
  exact ⟨(h2.blk.set 6 o).row rfl, h.old, h.new, h.name, h.named, h.only, q h2.tr, q h2.pe, q h2.ws, q ho, h.trs, h.wss, h.low, h.a1, h.a2, a h.tr, h.a4, a h.pe, a h.ws⟩
end Go.Proofs.YtbgmkplpolgebaaGreatDoor

namespace Go.Proofs.YtbgmkplpolgebaaGreatDoor
set_option linter.unusedSimpArgs false
set_option linter.unusedVariables false
open Go.RowKit Go.Shelf

def TzAt (w : World) : Prop := w.cell? ⟨8, 15, none⟩ = some (.int .u8 4)
theorem TzAt.new {w w' : World} (h : TzAt w) (n : New w w') : TzAt w' := n.cellv h
theorem tz16 (w : World) (h : TzAt w) : Calls Tryz.prog 217 #[.int .u64 16] w fun e w' => e = .returned (.int .i64 4) ∧ w = w' := by
  have hx : (IntKind.u64.wrap (bits BinOp.and IntKind.u64 16 (IntKind.u64.wrap (-16)) * 285870213051353865) / 288230376151711744).toNat = 15 := by decide +kernel
  have h : w.cell? ⟨8, (IntKind.u64.wrap (bits BinOp.and IntKind.u64 16 (IntKind.u64.wrap (-16)) * 285870213051353865) / 288230376151711744).toNat, none⟩ = some (.int .u8 4) := by rw [hx]; exact h
  clear hx
  go_enter Tryz.func217, Tryz.ntmps217
  go_wp2
  go_ret
  exact ⟨rfl, rfl⟩
theorem tz (w : World) (h : TzAt w) : Calls Tryz.prog 213 #[.int .u64 16] w fun e w' => e = .returned (.int .i64 4) ∧ w = w' := by
  have H := hid (tz16 w h)
  go_enter Tryz.func213, Tryz.ntmps213
  go_wp2_with fail
  refine H.out.mono ?_
  rintro e w1 ⟨rfl, rfl⟩
  go_wp2
  go_ret
  exact ⟨rfl, rfl⟩
theorem pow2 (w : World) : Calls Tryz.prog 212 #[.int .i64 16] w fun e w' => e = .returned (.bool true) ∧ w = w' := by
  go_enter Tryz.func212, Tryz.ntmps212
  go_wp2
  go_ret
  exact ⟨rfl, rfl⟩
def dig36 : ByteArray := ⟨#[48, 49, 50, 51, 52, 53, 54, 55, 56, 57, 97, 98, 99, 100, 101, 102, 103, 104, 105, 106, 107, 108, 109, 110, 111, 112, 113, 114, 115, 116, 117, 118, 119, 120, 121, 122]⟩
theorem dig_at (n : Nat) (h : n < 16) (h2 : n < dig36.size) : dig36[n] = hexD n := by
  have h3 : ∀ n : Nat, n < 16 → dig36.data.toList[n]? = some (hexD n) := by decide +kernel
  have := h3 n h
  rw [List.getElem?_eq_getElem (by rw [Array.length_toList]; exact h2)] at this
  exact Option.some.inj this
theorem and_15 (z : Int) (h0 : 0 ≤ z) (h1 : z < 18446744073709551616) : bits .and .u64 z 15 = z % 16 := by go_bits2
theorem arr_65 : Tryz.prog.arrayLen 231 = 65 := by kernel_rfl
def bndH : Nat → Nat
  | 0 => 65536
  | 1 => 4096
  | 2 => 256
  | _ => 16
theorem bndH_step {v n : Nat} (h : v < bndH n) (h2 : 16 ≤ v) : n ≤ 2 ∧ v / 16 < bndH (n + 1) := by
  match n, h with
  | 0, h => exact ⟨by omega, by show v / 16 < 4096; have : v < 65536 := h; omega⟩
  | 1, h => exact ⟨by omega, by show v / 16 < 256; have : v < 4096 := h; omega⟩
  | 2, h => exact ⟨by omega, by show v / 16 < 16; have : v < 256 := h; omega⟩
  | n + 3, h => exact absurd (show v < 16 from h) (by omega)
/-- The last cells of the row hold the bytes D. -/
def TailAt (w : World) (b : Nat) (D : List UInt8) : Prop := ∃ cs : Array Value, Blk w b cs 231 ∧ cs.size = 65 ∧ ∀ (j : Nat) (hj : j < D.length), cs[65 - D.length + j]? = some (.int .u8 (D[j].toNat : Int))
theorem TailAt.put {w : World} {b : Nat} {D : List UInt8} (h : TailAt w b D) (x : UInt8) (hD : D.length ≤ 60) : TailAt (w.setCell ⟨b, 65 - D.length - 1, none⟩ (.int .u8 (x.toNat : Int))) b (x :: D) := by
  obtain ⟨cs, h1, h2, h3⟩ := h
  refine ⟨cs.setIfInBounds (65 - D.length - 1) (.int .u8 (x.toNat : Int)), h1.set _ _, by simpa using h2, fun j hj => ?_⟩
  rw [List.length_cons] at hj ⊢
  rw [Array.getElem?_setIfInBounds]
  match j, hj with
  | 0, _ => rw [if_pos (by omega), if_pos (by omega)]; rfl
  | j + 1, hj =>
    rw [if_neg (by omega), List.getElem_cons_succ, show 65 - (D.length + 1) + (j + 1) = 65 - D.length + j by omega]
    exact h3 j (by omega)
theorem TailAt.text {w : World} {b : Nat} {D : List UInt8} (h : TailAt w b D) (hD : D.length ≤ 60) (n c : Nat) (hn : n = D.length) : (convert 42 9 (.slice (some ⟨b, 65 - n, none⟩) n c)).run Tryz.prog w = .ok (.string ⟨D.toArray⟩) w := by
  subst hn
  obtain ⟨cs, h1, h2, h3⟩ := h
  refine run_convert_bytes_back w 42 9 5 ⟨b, 65 - D.length, none⟩ c D Tryz.underlying42 Tryz.underlying5 Tryz.underlying9 (fun j hj => ?_)
  rw [Lib.add_plain, h1.cell]
  exact h3 j hj
theorem TailAt.facts {w : World} {b : Nat} {D : List UInt8} (h : TailAt w b D) (i : Nat) (hi : i < 65) : b < w.heap.size ∧ w.frozen? ⟨b, i, none⟩ = false ∧ ∃ v, w.cell? ⟨b, i, none⟩ = some v := by
  obtain ⟨cs, h1, h2, h3⟩ := h
  exact ⟨h1.lt, h1.frz i, cs[i]'(by omega), by rw [h1.cell]; exact Array.getElem?_eq_getElem _⟩
set_option maxRecDepth 100000 in
set_option maxHeartbeats 8000000 in
theorem fbits (u : Nat) (hu : u ≤ 65535) (w : World) (h : TzAt w) : Calls Tryz.prog 198 #[.slice none 0 0, .int .u64 u, .int .i64 16, .bool false, .bool false] w fun e w' => e = .returned (.tuple #[.slice none 0 0, .string ⟨(hexG u).toArray⟩]) ∧ New w w' := by
  have HP := hid (fun w => pow2 w)
  have HT := hid (fun W (n : New w W) => tz W (h.new n))
  clear h
  go_enter Tryz.func198, Tryz.ntmps198
  go_wp2_with fail
  refine (HP.out _).mono ?_
  rintro e w1 ⟨rfl, rfl⟩
  go_wp2_with fail
  refine (HT.out _ ((Mod.refl _ _).alloc _)).mono ?_
  rintro e w1 ⟨rfl, rfl⟩
  have hz : (Tryz.zeroCells231).size = 65 := by kernel_rfl
  have HB := hid (show TailAt (w.alloc (.cells Tryz.zeroCells231 231)) w.heap.size [] from ⟨_, Blk.new w _ _, hz, fun j hj => absurd hj (by simp)⟩)
  have HN := hid ((Mod.refl _ w).alloc (.cells Tryz.zeroCells231 231) : New w _)
  go_wp2
  obtain ⟨w2, hw2⟩ : ∃ w2, w2 = w.alloc (.cells Tryz.zeroCells231 231) := ⟨_, rfl⟩
  rw [← hw2] at HB HN
  rw [← hw2]
  obtain ⟨b, hb⟩ : ∃ b, b = w.heap.size := ⟨_, rfl⟩
  have HWB := hid (show w.heap.size ≤ b by omega)
  rw [← hb] at HB
  rw [← hb]
  have HU := hid hu
  clear hw2 hb HP HT hz hu
  go_loopw [13, 1] (fun i x wr => ∃ (v : Nat) (D : List UInt8), i = .int .i64 (65 - (D.length : Int)) ∧ x = .int .u64 v ∧ D.length ≤ 3 ∧ v < bndH D.length ∧ v ≤ 65535 ∧ hexG v ++ D = hexG u ∧ TailAt wr b D ∧ New w wr) (fun _ x _ => (intOf x).toNat)
  case atStart => exact ⟨u, [], rfl, rfl, by simp, by have := HU.out; show u < 65536; omega, HU.out, by simp, HB.out, HN.out⟩
  case round =>
    clear HB HN HU
    obtain ⟨v, D, rfl, rfl, hD, hv, hvv, hg, hT, hn⟩ := hrel
    have HT := hid hT; have HN := hid hn; have HG := hid hg
    have hm1 := and_15 (v : Int) (by omega) (by omega)
    obtain ⟨L, hL⟩ : ∃ L, L = v % 16 := ⟨_, rfl⟩
    obtain ⟨H, hH⟩ : ∃ H, H = v / 16 := ⟨_, rfl⟩
    have m1 : bits .and .u64 (v : Int) 15 = (L : Int) := by rw [hm1]; omega
    have d1 : (v : Int) / 16 = (H : Int) := by omega
    have hL16 : L < 16 := by omega
    have b1 : L < dig36.size := by show L < 36; omega
    have e1 := dig_at L hL16 b1
    unfold dig36 at e1
    obtain ⟨f1, f2, vv, f3⟩ := hT.facts (65 - D.length - 1) (by omega)
    have hidx : ((65 : Int) - (D.length : Int) - 1).toNat = 65 - D.length - 1 := by omega
    clear hT hn hg hm1
    by_cases h16 : 16 ≤ v
    · have h16I : (16 : Int) ≤ (v : Int) := by omega
      obtain ⟨s1, s2⟩ := bndH_step hv h16
      have HG2 := hid (show hexG H ++ (hexD L :: D) = hexG u by rw [← HG.out, hexG_more (u := v) (by omega), hH, hL]; simp)
      have s3 : H < bndH (D.length + 1) := by rw [hH]; exact s2
      clear hv s2 hL hH
      have hi0 : (0 : Int) ≤ 65 - (D.length : Int) - 1 := by omega
      go_wp2
      erw [e1]
      exact ⟨⟨H, hexD L :: D, by rw [List.length_cons]; congr 1; omega, rfl, by rw [List.length_cons]; omega, s3, by omega, HG2.out, HT.out.put (hexD L) (by omega), HN.out.set _ _ (.inr HWB.out)⟩, by simp [intOf]; omega⟩
    · have h16I : ¬ (16 : Int) ≤ (v : Int) := by omega
      have hvL : v = L := by omega
      have HG2 := hid (show hexD L :: D = hexG u by rw [← HG.out, hexG_one (u := v) (by omega), hvL]; rfl)
      clear hv hL hH d1
      have hi0 : (0 : Int) ≤ 65 - (D.length : Int) - 1 := by omega
      have hsl : ∀ W, (Instr.sliceAt 231 (.pointer (some ⟨b, 0, none⟩)) (some (.int .i64 (65 - (D.length : Int) - 1))) none none).run Tryz.prog W = .ok (.slice (some ⟨b, 64 - D.length, none⟩) (D.length + 1) (D.length + 1)) W := fun W => by
        rw [run_sliceAt_array_l W 231 ⟨b, 0, none⟩ Tryz.underlying231 .i64 (65 - (D.length : Int) - 1) hi0 (by rw [arr_65]; omega)]
        have hz : Tryz.prog.elem 231 = 5 := by kernel_rfl
        rw [hz, arr_65, hidx]
        go_simp
        rw [if_neg (by omega)]
        exact ⟨by congr 1; omega, by omega⟩
      have HTX := hid (HT.out.put (hexD L) (by omega))
      have hcv := HTX.out.text (by rw [List.length_cons]; omega) (D.length + 1) (D.length + 1) (by rw [List.length_cons])
      rw [show 65 - (D.length + 1) = 64 - D.length by omega] at hcv
      go_wp2
      erw [e1]
      erw [hcv]
      go_wp2
      go_ret2
      exact ⟨by rw [HG2.out]; rfl, HN.out.set _ _ (.inr HWB.out)⟩
theorem fmtu_hex (u : Nat) (hu : u ≤ 65535) (w : World) (h : TzAt w) : Calls Tryz.prog 191 #[.int .u64 u, .int .i64 16] w fun e w' => e = .returned (.string ⟨(hexG u).toArray⟩) ∧ New w w' := by
  have HB := hid (fbits u hu w h)
  clear h
  go_enter Tryz.func191, Tryz.ntmps191
  go_wp2_with fail
  refine HB.out.mono ?_
  rintro e w1 ⟨rfl, n1⟩
  have N1 := hid n1
  clear n1
  go_wp2
  go_ret
  exact ⟨rfl, N1.out⟩
theorem fmtu_int (b u : Nat) (hb : b = 10 ∨ b = 16) (hu : u ≤ 65535) (w : World) (h : VarP w) : Calls Tryz.prog 191 #[.int .u64 u, .int .i64 b] w fun e w' => e = .returned (.string ⟨(fmtU b u).toArray⟩) ∧ New w w' := by
  rcases hb with rfl | rfl
  · exact fmtu_ten u hu w h.tab
  · exact fmtu_hex u hu w h.tz
theorem fmtu_any (b u : Nat) (hb : b = 10 ∨ b = 16) (hu : u ≤ 65535) (w : World) (h : VarP w) : Calls Tryz.prog 170 #[.int .u64 u, .int .i64 b] w fun e w' => e = .returned (.string ⟨(fmtU b u).toArray⟩) ∧ New w w' := by
  have HB := hid (fmtu_int b u hb hu w h)
  clear h
  go_enter Tryz.func170, Tryz.ntmps170
  go_wp2_with fail
  refine HB.out.mono ?_
  rintro e w1 ⟨rfl, n1⟩
  have N1 := hid n1
  clear n1
  go_wp2
  go_ret
  exact ⟨rfl, N1.out⟩
theorem pu_int (b : Nat) (hb : b = 10 ∨ b = 16) (t : ByteArray) (w : World) (hs : t.size ≤ 70000) : Calls Tryz.prog 189 #[.string t, .int .i64 b, .int .i64 31] w fun e w' => PuTold (puP b t.data.toList) e ∧ New w w' := by
  rcases hb with rfl | rfl
  · exact pu_ten t w hs
  · exact pu_hex t w hs
theorem pu_any (b : Nat) (hb : b = 10 ∨ b = 16) (t : ByteArray) (w : World) (hs : t.size ≤ 70000) (hv : VarP w) : Calls Tryz.prog 169 #[.string t, .int .i64 b, .int .i64 31] w fun e w' => (∃ (x : Int) (E : Value), e = .returned (.tuple #[.int .u64 x, E]) ∧ 0 ≤ x ∧ x ≤ 2147483647 ∧ ((∃ u : Nat, puP b t.data.toList = some u ∧ x = u ∧ E = .nilIface) ∨ (puP b t.data.toList = none ∧ ∃ tp p, E = .iface tp p))) ∧ New w w' := by
  have HB := hid (pu_int b hb t w hs)
  obtain ⟨R, hR⟩ : ∃ R, R = puP b t.data.toList := ⟨_, rfl⟩
  rw [← hR] at HB ⊢
  have HV := hid (fun W (n : New w W) => hv.new n)
  clear hv hR
  go_enter Tryz.func169, Tryz.ntmps169
  go_wp2_with fail
  refine HB.out.mono ?_
  rintro e w1 ⟨⟨x, E, rfl, h0, h1, hr⟩, n1⟩
  have N1 := hid n1
  clear n1
  rcases hr with ⟨u, hr, hx, rfl⟩ | ⟨hr, hE⟩
  · have HR := hid (And.intro hr hx)
    clear hr hx
    go_wp2
    go_ret2
    exact ⟨⟨_, _, rfl, h0, h1, .inl ⟨u, HR.out.1, HR.out.2, rfl⟩⟩, N1.out⟩
  · have HR := hid hr
    clear hr
    rcases hE with rfl | rfl
    · unfold numErr
      go_wp2_with fail
      obtain ⟨tp, p, hc⟩ := (HV.out _ N1.out).rngC
      refine (Tryz.strconv_toError_range _ t b 31 (.iface tp p) _ (by omega) hc (.inr ⟨_, _, rfl⟩)).mono ?_
      rintro e w2 ⟨N, rfl, -, -, hb2⟩
      have N2 := hid (N1.out.trans (New.of_below hb2))
      clear hb2 hc
      go_wp2
      go_ret2
      exact ⟨⟨_, _, rfl, h0, h1, .inr ⟨HR.out, _, _, rfl⟩⟩, N2.out⟩
    · unfold numErr
      go_wp2_with fail
      obtain ⟨tp, p, hc⟩ := (HV.out _ N1.out).synC
      refine (Tryz.strconv_toError_syntax _ t b 31 (.iface tp p) _ (by omega) hc (.inr ⟨_, _, rfl⟩)).mono ?_
      rintro e w2 ⟨N, rfl, -, -, hb2⟩
      have N2 := hid (N1.out.trans (New.of_below hb2))
      clear hb2 hc
      go_wp2
      go_ret2
      exact ⟨⟨_, _, rfl, h0, h1, .inr ⟨HR.out, _, _, rfl⟩⟩, N2.out⟩
end Go.Proofs.YtbgmkplpolgebaaGreatDoor
