/-
  Several texts in one, in their build order. A list of texts of the call's own, several of them side by side; the walks of text and added (package magnet). Conditions as told. A list of addresses of the call's own; the walk of added for addresses (package magnet). Conditions as told. What a reader holds, with its own lists side by side. Plain facts on worlds. Conditions as told. The library's FormatUint at base 16, of numbers below 65536. Condition: the library's table of trailing zeros is as laid.
-/
import Derived.Test.YtbgmkplpolgebaaGreatDoorM15
import Derived.Maps.AppendAt
import Derived.Test.YtbgmkplpolgebaaGreatDoorM16
import Derived.Test.YtbgmkplpolgebaaGreatDoorM5
import Derived.Test.YtbgmkplpolgebaaGreatDoorM19
namespace Go.Proofs.YtbgmkplpolgebaaGreatDoor
set_option linter.unusedSimpArgs false
set_option linter.unusedVariables false
open Go.RowKit Go.Shelf

theorem info_strM : (Tryz.prog.info? 9).map (fun i => (i.zero, i.size, i.bytes)) = some (some (.string ⟨#[]⟩), 1, 16) := by kernel_rfl
/-- The slice v, of the call's own memory from block base on, holds the texts l. -/
structure OwnS (w : World) (base : Nat) (v : Value) (l : List ByteArray) : Prop where
  row : w.ownsRow base 9 1 v l.length (l.map Value.string)
  small : ∀ s ∈ l, s.size ≤ maxLen
theorem OwnS.nil (w : World) (base : Nat) : OwnS w base (.slice none 0 0) [] := ⟨World.ownsRow_nil _ _ _ _, by simp⟩
theorem OwnS.block {w : World} {base g : Nat} {v : Value} {l : List ByteArray} (h : OwnS w base v l) (hv : v.ownBlock = some g) : base ≤ g ∧ g < w.heap.size := by
  rcases h.row.2 with ⟨rfl, hn⟩ | ⟨g', cap, cur, rfl, hbg, hg, -⟩
  · cases hv
  · injection hv with hv
    subst hv
    exact ⟨hbg, (Array.getElem?_eq_some_iff.1 hg).1⟩
theorem OwnS.mod {S : Nat → Prop} {w w' : World} {base : Nat} {v : Value} {l : List ByteArray} (h : OwnS w base v l) (n : Mod S w w') (hs : ∀ k, v.ownBlock = some k → ¬ S k) : OwnS w' base v l := by
  refine ⟨?_, h.small⟩
  rcases h.row.2 with ⟨rfl, hn⟩ | ⟨g, cap, cur, rfl, hbg, hg, r⟩
  · exact ⟨h.row.1, .inl ⟨rfl, hn⟩⟩
  · have hlt := (Array.getElem?_eq_some_iff.1 hg).1
    exact ⟨h.row.1, .inr ⟨g, cap, cur, rfl, hbg, (n.block g hlt (hs g rfl)).trans hg, r⟩⟩
theorem OwnS.new {w w' : World} {base : Nat} {v : Value} {l : List ByteArray} (h : OwnS w base v l) (n : New w w') : OwnS w' base v l := h.mod n (fun _ _ x => x)
theorem OwnS.form {w : World} {base : Nat} {v : Value} {l : List ByteArray} (h : OwnS w base v l) : ∃ a c, v = .slice a l.length c := by
  rcases h.row.2 with ⟨rfl, hn⟩ | ⟨g, cap, cur, rfl, hbg, hg, hnc, hcm, hcs, htake⟩
  · have : l = [] := List.eq_nil_of_length_eq_zero hn
    subst this
    exact ⟨none, 0, rfl⟩
  · exact ⟨some ⟨g, 0, none⟩, cap, rfl⟩
theorem ownS_of {w : World} {base : Nat} {v : Value} {l : List ByteArray} {s : ByteArray} (hl : ∀ s ∈ l, s.size ≤ maxLen) (hs : s.size ≤ maxLen) (h : w.ownsRow base 9 1 v (l.length + 1) (l.map Value.string ++ [.string s])) : OwnS w base v (l ++ [s]) := by
  refine ⟨by rw [List.length_append, List.map_append]; exact h, fun x hx => ?_⟩
  rcases List.mem_append.1 hx with q | q
  · exact hl x q
  · simp only [List.mem_singleton] at q
    rw [q]
    exact hs
/-- text: one byte at least, 200 at most. -/
def textM (x : ByteArray) : Bool := decide (1 ≤ x.size) && decide (x.size ≤ 200)
theorem text_any (x : ByteArray) (w : World) : Calls Tryz.prog 32 #[.string x] w fun e w' => e = .returned (.bool (textM x)) ∧ w = w' := by
  unfold textM
  by_cases h1 : 1 ≤ x.size
  · have h1I : (1 : Int) ≤ (x.size : Int) := by omega
    by_cases h2 : x.size ≤ 200
    · have h2I : (x.size : Int) ≤ 200 := by omega
      rw [decide_eq_true h1, decide_eq_true h2]
      clear h1 h2
      go_enter Tryz.func32, Tryz.ntmps32
      go_wp2
      go_ret
      exact ⟨rfl, rfl⟩
    · have h2I : ¬ (x.size : Int) ≤ 200 := by omega
      rw [decide_eq_true h1, decide_eq_false h2]
      clear h1 h2
      go_enter Tryz.func32, Tryz.ntmps32
      go_wp2
      go_ret
      exact ⟨rfl, rfl⟩
  · have h1I : ¬ (1 : Int) ≤ (x.size : Int) := by omega
    rw [decide_eq_false h1]
    clear h1
    go_enter Tryz.func32, Tryz.ntmps32
    go_wp2
    go_ret
    exact ⟨rfl, rfl⟩
end Go.Proofs.YtbgmkplpolgebaaGreatDoor

namespace Go.Proofs.YtbgmkplpolgebaaGreatDoor
set_option linter.unusedSimpArgs false
set_option linter.unusedVariables false
open Go.RowKit Go.Shelf

def adrCells (x : AdrV) : List Value := [.int .i64 x.fam, .string x.ip, .int .i64 x.port]
def adrVM (x : AdrV) : Value := .agg #[.int .i64 x.fam, .string x.ip, .int .i64 x.port]
def adrRow : List AdrV → List Value
  | [] => []
  | x :: r => adrCells x ++ adrRow r
theorem adrRow_app : ∀ (A B : List AdrV), adrRow (A ++ B) = adrRow A ++ adrRow B
  | [], B => rfl
  | x :: r, B => by
    show adrCells x ++ adrRow (r ++ B) = adrCells x ++ adrRow r ++ adrRow B
    rw [adrRow_app r B, List.append_assoc]
theorem adrRow_len : ∀ (A : List AdrV), (adrRow A).length = A.length * 3
  | [] => rfl
  | x :: r => by
    show (adrCells x ++ adrRow r).length = _
    rw [List.length_append, adrRow_len r, List.length_cons]
    show 3 + _ = _
    omega
theorem adrRow_at : ∀ {A : List AdrV} {i j : Nat} {x : AdrV}, A[i]? = some x → j < 3 → (adrRow A)[i * 3 + j]? = (adrCells x)[j]?
  | [], i, j, x, h, hj => by cases h
  | y :: r, 0, j, x, h, hj => by
    injection h with h
    subst h
    show (adrCells y ++ adrRow r)[0 * 3 + j]? = _
    rw [List.getElem?_append_left (by show 0 * 3 + j < 3; omega), Nat.zero_mul, Nat.zero_add]
  | y :: r, i + 1, j, x, h, hj => by
    have := adrRow_at (A := r) (i := i) (j := j) h hj
    show (adrCells y ++ adrRow r)[(i + 1) * 3 + j]? = _
    rw [List.getElem?_append_right (by show 3 ≤ (i + 1) * 3 + j; omega)]
    rw [show (i + 1) * 3 + j - (adrCells y).length = i * 3 + j by show (i + 1) * 3 + j - 3 = _; omega]
    exact this
theorem info_adrM : (Tryz.prog.info? 64).map (fun i => (i.zero, i.size, i.bytes)) = some (some (.agg #[.int .i64 0, .string ⟨#[]⟩, .int .i64 0]), 3, 32) := by kernel_rfl
theorem three_newM (w : World) (b : Nat) (hb : b = w.heap.size) (x y z : Value) (t : TypeId) : ∀ (j : Nat) (u : Value), [x, y, z][j]? = some u → (w.alloc (.cells #[x, y, z] t)).cell? ((⟨b, 0, none⟩ : Addr).add j) = some u := by
  subst hb
  intro j u hj
  have B := Blk.new w #[x, y, z] t
  rw [show (⟨w.heap.size, 0, none⟩ : Addr).add j = ⟨w.heap.size, 0 + j, none⟩ by unfold Addr.add; split <;> simp_all, Nat.zero_add]
  exact B.cellv j (by simpa using hj)
/-- The slice v, of the call's own memory from block base on, holds the addresses l. -/
structure OwnA (w : World) (base : Nat) (v : Value) (l : List AdrV) : Prop where
  row : w.ownsRow base 64 3 v l.length (adrRow l)
theorem OwnA.nil (w : World) (base : Nat) : OwnA w base (.slice none 0 0) [] := ⟨World.ownsRow_nil _ _ _ _⟩
theorem OwnA.block {w : World} {base g : Nat} {v : Value} {l : List AdrV} (h : OwnA w base v l) (hv : v.ownBlock = some g) : base ≤ g ∧ g < w.heap.size := by
  rcases h.row.2 with ⟨rfl, hn⟩ | ⟨g', cap, cur, rfl, hbg, hg, -⟩
  · cases hv
  · injection hv with hv
    subst hv
    exact ⟨hbg, (Array.getElem?_eq_some_iff.1 hg).1⟩
theorem OwnA.mod {S : Nat → Prop} {w w' : World} {base : Nat} {v : Value} {l : List AdrV} (h : OwnA w base v l) (n : Mod S w w') (hs : ∀ k, v.ownBlock = some k → ¬ S k) : OwnA w' base v l := by
  refine ⟨?_⟩
  rcases h.row.2 with ⟨rfl, hn⟩ | ⟨g, cap, cur, rfl, hbg, hg, r⟩
  · exact ⟨h.row.1, .inl ⟨rfl, hn⟩⟩
  · have hlt := (Array.getElem?_eq_some_iff.1 hg).1
    exact ⟨h.row.1, .inr ⟨g, cap, cur, rfl, hbg, (n.block g hlt (hs g rfl)).trans hg, r⟩⟩
theorem OwnA.new {w w' : World} {base : Nat} {v : Value} {l : List AdrV} (h : OwnA w base v l) (n : New w w') : OwnA w' base v l := h.mod n (fun _ _ x => x)
theorem OwnA.form {w : World} {base : Nat} {v : Value} {l : List AdrV} (h : OwnA w base v l) : ∃ a c, v = .slice a l.length c := by
  rcases h.row.2 with ⟨rfl, hn⟩ | ⟨g, cap, cur, rfl, hbg, hg, hnc, hcm, hcs, htake⟩
  · have : l = [] := List.eq_nil_of_length_eq_zero hn
    subst this
    exact ⟨none, 0, rfl⟩
  · exact ⟨some ⟨g, 0, none⟩, cap, rfl⟩
theorem ownA_of {w : World} {base : Nat} {v : Value} {l : List AdrV} {x : AdrV} (h : w.ownsRow base 64 3 v (l.length + 1) (adrRow l ++ adrCells x)) : OwnA w base v (l ++ [x]) := by
  refine ⟨?_⟩
  rw [List.length_append, adrRow_app, show adrRow [x] = adrCells x from List.append_nil _]
  exact h
end Go.Proofs.YtbgmkplpolgebaaGreatDoor

namespace Go.Proofs.YtbgmkplpolgebaaGreatDoor
set_option linter.unusedSimpArgs false
set_option linter.unusedVariables false
open Go.RowKit Go.Shelf

def ApartV (a b : Value) : Prop := ∀ k, a.ownBlock = some k → b.ownBlock ≠ some k
theorem ApartV.symm {a b : Value} (h : ApartV a b) : ApartV b a := fun k h1 h2 => h k h2 h1
theorem rowMod {S : Nat → Prop} {w w' : World} {base : Nat} {e : TypeId} {size : Nat} {v : Value} {n : Nat} {xs : List Value} (h : w.ownsRow base e size v n xs) (m : Mod S w w') (hs : ∀ k, v.ownBlock = some k → ¬ S k) : w'.ownsRow base e size v n xs := by
  rcases h.2 with ⟨rfl, hn⟩ | ⟨g, cap, cur, rfl, hbg, hg, r⟩
  · exact ⟨h.1, .inl ⟨rfl, hn⟩⟩
  · have hlt := (Array.getElem?_eq_some_iff.1 hg).1
    exact ⟨h.1, .inr ⟨g, cap, cur, rfl, hbg, (m.block g hlt (hs g rfl)).trans hg, r⟩⟩
theorem rowBlock {w : World} {base : Nat} {e : TypeId} {size : Nat} {v : Value} {n : Nat} {xs : List Value} (h : w.ownsRow base e size v n xs) {g : Nat} (hv : v.ownBlock = some g) : base ≤ g ∧ g < w.heap.size := by
  rcases h.2 with ⟨rfl, hn⟩ | ⟨g', cap, cur, rfl, hbg, hg, -⟩
  · cases hv
  · injection hv with hv
    subst hv
    exact ⟨hbg, (Array.getElem?_eq_some_iff.1 hg).1⟩
/-- The reader in block B tells m; its lists lie in memory of the call's own, from block base on. -/
structure RdIs (T : TypeId) (w : World) (B base : Nat) (m : MgV) (r : RdM) : Prop where
  blk : Blk w B (rdRow r) T
  old : r.old = m.old
  new : r.new = m.new
  name : r.name = m.name
  named : r.named = m.named
  only : r.only = m.only
  tr : w.ownsRow base 9 1 r.tr m.tr.length (m.tr.map Value.string)
  pe : w.ownsRow base 64 3 r.pe m.pe.length (adrRow m.pe)
  ws : w.ownsRow base 9 1 r.ws m.ws.length (m.ws.map Value.string)
  on : w.ownsRow base 66 2 r.on m.on.length (runRow m.on)
  trs : ∀ s ∈ m.tr, s.size ≤ maxLen
  wss : ∀ s ∈ m.ws, s.size ≤ maxLen
  low : B < base
  a1 : ApartV r.tr r.pe
  a2 : ApartV r.tr r.ws
  a3 : ApartV r.tr r.on
  a4 : ApartV r.pe r.ws
  a5 : ApartV r.pe r.on
  a6 : ApartV r.ws r.on
theorem apart_nil (a : Value) : ApartV (.slice none 0 0) a := fun k h => by cases h
theorem RdIs.zero {T : TypeId} {w : World} {B base : Nat} (hb : Blk w B (rdRow (rdZero mg0)) T) (hl : B < base) : RdIs T w B base mg0 (rdZero mg0) :=
  ⟨hb, rfl, rfl, rfl, rfl, rfl, World.ownsRow_nil _ _ _ _, World.ownsRow_nil _ _ _ _, World.ownsRow_nil _ _ _ _, World.ownsRow_nil _ _ _ _, by simp [mg0], by simp [mg0], hl, apart_nil _, apart_nil _, apart_nil _, apart_nil _, apart_nil _, apart_nil _⟩
/-- What turns no block of the reader. -/
theorem RdIs.mod {T : TypeId} {S : Nat → Prop} {w w' : World} {B base : Nat} {m : MgV} {r : RdM} (h : RdIs T w B base m r) (n : Mod S w w') (hB : ¬ S B) (hs : ∀ k, base ≤ k → k < w.heap.size → ¬ S k) : RdIs T w' B base m r :=
  ⟨n.blk h.blk hB, h.old, h.new, h.name, h.named, h.only, rowMod h.tr n (fun k q => hs k (rowBlock h.tr q).1 (rowBlock h.tr q).2), rowMod h.pe n (fun k q => hs k (rowBlock h.pe q).1 (rowBlock h.pe q).2), rowMod h.ws n (fun k q => hs k (rowBlock h.ws q).1 (rowBlock h.ws q).2), rowMod h.on n (fun k q => hs k (rowBlock h.on q).1 (rowBlock h.on q).2), h.trs, h.wss, h.low, h.a1, h.a2, h.a3, h.a4, h.a5, h.a6⟩
theorem RdIs.next {T : TypeId} {w w' : World} {B base : Nat} {m : MgV} {r : RdM} (h : RdIs T w B base m r) (n : New w w') : RdIs T w' B base m r := h.mod n (fun x => x) (fun _ _ _ x => x)
/-- The reader's own block turned, the lists not. -/
theorem RdIs.turn {T : TypeId} {w w' : World} {B base : Nat} {m m' : MgV} {r r' : RdM} (h : RdIs T w B base m r) (n : Mod (fun k => k = B) w w') (hb : Blk w' B (rdRow r') T) (e1 : r'.tr = r.tr) (e2 : r'.pe = r.pe) (e3 : r'.ws = r.ws) (e4 : r'.on = r.on) (m1 : m'.tr = m.tr) (m2 : m'.pe = m.pe) (m3 : m'.ws = m.ws) (m4 : m'.on = m.on) (f1 : r'.old = m'.old) (f2 : r'.new = m'.new) (f3 : r'.name = m'.name) (f4 : r'.named = m'.named) (f5 : r'.only = m'.only) : RdIs T w' B base m' r' := by
  have q : ∀ {v : Value} {e : TypeId} {size n' : Nat} {xs : List Value}, w.ownsRow base e size v n' xs → w'.ownsRow base e size v n' xs := fun g => rowMod g n (fun k q => by have := (rowBlock g q).1; have := h.low; omega)
  refine ⟨hb, f1, f2, f3, f4, f5, ?_, ?_, ?_, ?_, ?_, ?_, h.low, ?_, ?_, ?_, ?_, ?_, ?_⟩
  · rw [e1, m1]; exact q h.tr
  · rw [e2, m2]; exact q h.pe
  · rw [e3, m3]; exact q h.ws
  · rw [e4, m4]; exact q h.on
  · rw [m1]; exact h.trs
  · rw [m3]; exact h.wss
  · rw [e1, e2]; exact h.a1
  · rw [e1, e3]; exact h.a2
  · rw [e1, e4]; exact h.a3
  · rw [e2, e3]; exact h.a4
  · rw [e2, e4]; exact h.a5
  · rw [e3, e4]; exact h.a6
/-- One list grown, and laid into the reader. -/
theorem RdIs.grow (T : TypeId) {w w2 : World} {B base : Nat} {m : MgV} {r : RdM} (h : RdIs T w B base m r) {v o : Value} (hv : ∀ k, v.ownBlock = some k → base ≤ k) (hm : Mod (fun k => v.ownBlock = some k) w w2) (i : Nat) {u : Value} {e : TypeId} {size n : Nat} {xs : List Value} (hu : w.ownsRow base e size u n xs) (ha : ApartV v u) : (w2.setCell ⟨B, i, none⟩ o).ownsRow base e size u n xs := by
  have h2 := rowMod hu hm (fun k q q2 => ha k q2 q)
  refine rowMod h2 ((Mod.refl (fun k => k = B) w2).set ⟨B, i, none⟩ o (.inl rfl)) (fun k q q2 => ?_)
  have := (rowBlock h2 q).1
  have := h.low
  omega
end Go.Proofs.YtbgmkplpolgebaaGreatDoor

namespace Go.Proofs.YtbgmkplpolgebaaGreatDoor
set_option linter.unusedSimpArgs false
set_option linter.unusedVariables false
open Go.RowKit Go.Shelf

def TzAt (w : World) : Prop := w.cell? ⟨8, 15, none⟩ = some (.int .u8 4)
theorem TzAt.new {w w' : World} (h : TzAt w) (n : New w w') : TzAt w' := n.cellv h
theorem tz16 (w : World) (h : TzAt w) : Calls Tryz.prog 217 #[.int .u64 16] w fun e w' => e = .returned (.int .i64 4) ∧ w = w' := by
  have hx : (IntKind.u64.wrap (bits BinOp.and IntKind.u64 16 (IntKind.u64.wrap (-16)) * 285870213051353865) / 288230376151711744).toNat = 15 := by decide +kernel
  have h : w.cell? ⟨8, (IntKind.u64.wrap (bits BinOp.and IntKind.u64 16 (IntKind.u64.wrap (-16)) * 285870213051353865) / 288230376151711744).toNat, none⟩ = some (.int .u8 4) := by rw [hx]; exact h
  clear hx
  go_enter Tryz.func217, Tryz.ntmps217
  go_wp2
  go_ret
  exact ⟨rfl, rfl⟩
theorem tz (w : World) (h : TzAt w) : Calls Tryz.prog 213 #[.int .u64 16] w fun e w' => e = .returned (.int .i64 4) ∧ w = w' := by
  have H := hid (tz16 w h)
  go_enter Tryz.func213, Tryz.ntmps213
  go_wp2_with fail
  refine H.out.mono ?_
  rintro e w1 ⟨rfl, rfl⟩
  go_wp2
  go_ret
  exact ⟨rfl, rfl⟩
/-- The last cells of the row hold the bytes D. -/
def TailAt (w : World) (b : Nat) (D : List UInt8) : Prop := ∃ cs : Array Value, Blk w b cs 231 ∧ cs.size = 65 ∧ ∀ (j : Nat) (hj : j < D.length), cs[65 - D.length + j]? = some (.int .u8 (D[j].toNat : Int))
theorem TailAt.put {w : World} {b : Nat} {D : List UInt8} (h : TailAt w b D) (x : UInt8) (hD : D.length ≤ 60) : TailAt (w.setCell ⟨b, 65 - D.length - 1, none⟩ (.int .u8 (x.toNat : Int))) b (x :: D) := by
  obtain ⟨cs, h1, h2, h3⟩ := h
  refine ⟨cs.setIfInBounds (65 - D.length - 1) (.int .u8 (x.toNat : Int)), h1.set _ _, by simpa using h2, fun j hj => ?_⟩
  rw [List.length_cons] at hj ⊢
  rw [Array.getElem?_setIfInBounds]
  match j, hj with
  | 0, _ => rw [if_pos (by omega), if_pos (by omega)]; rfl
  | j + 1, hj =>
    rw [if_neg (by omega), List.getElem_cons_succ, show 65 - (D.length + 1) + (j + 1) = 65 - D.length + j by omega]
    exact h3 j (by omega)
theorem TailAt.text {w : World} {b : Nat} {D : List UInt8} (h : TailAt w b D) (hD : D.length ≤ 60) (n c : Nat) (hn : n = D.length) : (convert 42 9 (.slice (some ⟨b, 65 - n, none⟩) n c)).run Tryz.prog w = .ok (.string ⟨D.toArray⟩) w := by
  subst hn
  obtain ⟨cs, h1, h2, h3⟩ := h
  refine run_convert_bytes_back w 42 9 5 ⟨b, 65 - D.length, none⟩ c D Tryz.underlying42 Tryz.underlying5 Tryz.underlying9 (fun j hj => ?_)
  rw [Lib.add_plain, h1.cell]
  exact h3 j hj
theorem TailAt.facts {w : World} {b : Nat} {D : List UInt8} (h : TailAt w b D) (i : Nat) (hi : i < 65) : b < w.heap.size ∧ w.frozen? ⟨b, i, none⟩ = false ∧ ∃ v, w.cell? ⟨b, i, none⟩ = some v := by
  obtain ⟨cs, h1, h2, h3⟩ := h
  exact ⟨h1.lt, h1.frz i, cs[i]'(by omega), by rw [h1.cell]; exact Array.getElem?_eq_getElem _⟩
end Go.Proofs.YtbgmkplpolgebaaGreatDoor
