/-
  Several texts in one, in their build order. How the reference's crier lies in memory: lists of pairs of a text and a number. Plain facts over the program. No condition. The walks of the small functions of the reference's crier: name, at, find, count, Cookie, Last. Conditions: the crier lies as told.
-/
import Derived.Test.YtnflhjagmngimaaGreatDoorM9
import Derived.Maps.AppendAt
namespace Go.Proofs.YtnflhjagmngimaaGreatDoor
set_option linter.unusedSimpArgs false
set_option linter.unusedVariables false
open Go.RowKit Go.Shelf

def pairCells (x : ByteArray × Int) : List Value := [.string x.1, .int .i64 x.2]
def pairRow (U : List (ByteArray × Int)) : List Value := U.flatMap pairCells
theorem pairRow_app (U V : List (ByteArray × Int)) : pairRow (U ++ V) = pairRow U ++ pairRow V := by unfold pairRow; rw [List.flatMap_append]
theorem pairRow_len (U : List (ByteArray × Int)) : (pairRow U).length = U.length * 2 := by
  induction U with
  | nil => rfl
  | cons x r ih =>
    show (pairCells x ++ pairRow r).length = _
    rw [List.length_append, ih, List.length_cons]
    simp [pairCells]
    omega
theorem pairRow_at {U : List (ByteArray × Int)} {i j : Nat} {s : ByteArray × Int} (h : U[i]? = some s) (hj : j < 2) : (pairRow U)[i * 2 + j]? = (pairCells s)[j]? := by
  have hi := (List.getElem?_eq_some_iff.1 h).1
  have hsp : U = U.take i ++ s :: U.drop (i + 1) := by
    have e : U[i] = s := (List.getElem?_eq_some_iff.1 h).2
    rw [← e, List.getElem_cons_drop, List.take_append_drop]
  rw [hsp, pairRow_app, List.getElem?_append_right (by rw [pairRow_len, List.length_take]; omega), pairRow_len, List.length_take, show i * 2 + j - min i U.length * 2 = j by omega]
  show (pairCells s ++ pairRow _)[j]? = _
  rw [List.getElem?_append_left (by simp [pairCells]; omega)]
theorem pair_one (U : List (ByteArray × Int)) : ∀ u ∈ pairRow U, u.oneCell' = true := by
  intro u hu
  unfold pairRow at hu
  obtain ⟨y, -, hy⟩ := List.mem_flatMap.1 hu
  simp [pairCells] at hy
  rcases hy with rfl | rfl <;> rfl
theorem addP (b off i : Nat) : (⟨b, off, none⟩ : Addr).add i = ⟨b, off + i, none⟩ := by
  unfold Addr.add
  split <;> simp_all
/-- The slice (a, cap) holds the pairs U, of the type ty; its block lies at or above base. -/
structure PairAt (w : World) (base : Nat) (ty : TypeId) (a : Option Addr) (cap : Nat) (U : List (ByteArray × Int)) : Prop where
  le : U.length ≤ cap
  max : cap ≤ maxLen
  lies : (a = none ∧ U = [] ∧ cap = 0) ∨ ∃ g cs, a = some ⟨g, 0, none⟩ ∧ base ≤ g ∧ Blk w g cs ty ∧ ∀ (i : Nat) v, (pairRow U)[i]? = some v → cs[i]? = some v
theorem PairAt.mod {S : Nat → Prop} {w w' : World} {base : Nat} {ty : TypeId} {a : Option Addr} {cap : Nat} {U : List (ByteArray × Int)} (h : PairAt w base ty a cap U) (hm : Mod S w w') (hs : ∀ x, a = some x → ¬ S x.block) : PairAt w' base ty a cap U := by
  refine ⟨h.le, h.max, ?_⟩
  rcases h.lies with h1 | ⟨g, cs, rfl, hb, hB, hc⟩
  · exact .inl h1
  · exact .inr ⟨g, cs, rfl, hb, hm.blk hB (hs _ rfl), hc⟩
theorem PairAt.new {w w' : World} {base : Nat} {ty : TypeId} {a : Option Addr} {cap : Nat} {U : List (ByteArray × Int)} (h : PairAt w base ty a cap U) (hm : New w w') : PairAt w' base ty a cap U := h.mod hm (fun _ _ q => q)
theorem PairAt.blk {w : World} {base : Nat} {ty : TypeId} {a : Option Addr} {cap : Nat} {U : List (ByteArray × Int)} (h : PairAt w base ty a cap U) {x : Addr} (hx : a = some x) : base ≤ x.block ∧ ∃ cs, Blk w x.block cs ty := by
  rcases h.lies with ⟨h1, -, -⟩ | ⟨g, cs, rfl, hb, hB, -⟩
  · rw [h1] at hx; cases hx
  · cases hx; exact ⟨hb, cs, hB⟩
/-- The cells of the pair i. -/
theorem PairAt.get {w : World} {base : Nat} {ty : TypeId} {a : Option Addr} {cap : Nat} {U : List (ByteArray × Int)} (h : PairAt w base ty a cap U) {i : Nat} (hi : i < U.length) :
    ∃ g, a = some ⟨g, 0, none⟩ ∧ g < w.heap.size ∧ w.cell? ⟨g, i * 2, none⟩ = some (.string U[i].1) ∧ w.cell? ⟨g, i * 2 + 1, none⟩ = some (.int .i64 U[i].2) ∧ w.frozen? ⟨g, i * 2, none⟩ = false ∧ w.frozen? ⟨g, i * 2 + 1, none⟩ = false := by
  rcases h.lies with ⟨-, h1, -⟩ | ⟨g, cs, rfl, -, hB, hc⟩
  · subst h1; simp at hi
  · exact ⟨g, rfl, hB.lt, hB.cellv _ (hc (i * 2) _ (pairRow_at (j := 0) (List.getElem?_eq_getElem hi) (by omega))), hB.cellv _ (hc (i * 2 + 1) _ (pairRow_at (j := 1) (List.getElem?_eq_getElem hi) (by omega))), hB.frz _, hB.frz _⟩
theorem pair_at_of {w : World} {base : Nat} {ty : TypeId} {v : Value} {U : List (ByteArray × Int)} (h : w.ownsRow base ty 2 v U.length (pairRow U)) : ∃ a cap, v = .slice a U.length cap ∧ PairAt w base ty a cap U := by
  rcases h.2 with ⟨rfl, hn⟩ | ⟨g, cap, cur, rfl, hbg, hg, hnc, hcm, hcs, htake⟩
  · have : U = [] := List.eq_nil_of_length_eq_zero hn
    subst this
    exact ⟨none, 0, rfl, by simp, by simp [maxLen], .inl ⟨rfl, rfl, rfl⟩⟩
  · refine ⟨_, cap, rfl, hnc, hcm, .inr ⟨g, cur, rfl, hbg, hg, fun i v hi => ?_⟩⟩
    rw [← htake, List.getElem?_take] at hi
    split at hi
    · rw [← Array.getElem?_toList]; exact hi
    · cases hi
theorem PairAt.base {w : World} {base base' : Nat} {ty : TypeId} {a : Option Addr} {cap : Nat} {U : List (ByteArray × Int)} (h : PairAt w base ty a cap U) (hb : base' ≤ base) : PairAt w base' ty a cap U := by
  refine ⟨h.le, h.max, ?_⟩
  rcases h.lies with h1 | ⟨g, cs, rfl, hg, hB, hc⟩
  · exact .inl h1
  · exact .inr ⟨g, cs, rfl, Nat.le_trans hb hg, hB, hc⟩
/-- The cells of a part, as a source of append. -/
theorem PairAt.part {w : World} {base g cap : Nat} {ty : TypeId} {U : List (ByteArray × Int)} (h : PairAt w base ty (some ⟨g, 0, none⟩) cap U) (i : Nat) (V : List (ByteArray × Int)) (hV : ∀ (j : Nat) y, V[j]? = some y → U[i + j]? = some y) : ∀ (j : Nat) (u : Value), (pairRow V)[j]? = some u → w.cell? ((⟨g, i * 2, none⟩ : Addr).add j) = some u := by
  intro j u hj
  rcases h.lies with ⟨h1, -, -⟩ | ⟨g', cs, e, -, hB, hc⟩
  · cases h1
  cases e
  have hlt : j < V.length * 2 := by rw [← pairRow_len]; exact (List.getElem?_eq_some_iff.1 hj).1
  have hjj : j = j / 2 * 2 + j % 2 := by omega
  obtain ⟨y, hy⟩ : ∃ y, V[j / 2]? = some y := ⟨_, List.getElem?_eq_getElem (by omega)⟩
  have h1 := pairRow_at hy (show j % 2 < 2 by omega)
  rw [← hjj, hj] at h1
  have h2 := hB.cellv _ (hc ((i + j / 2) * 2 + j % 2) u (by rw [pairRow_at (hV _ _ hy) (by omega)]; exact h1.symm))
  rw [addP, show i * 2 + j = (i + j / 2) * 2 + j % 2 by omega]
  exact h2
/-- Another number in the pair i. -/
theorem PairAt.put {w : World} {base g cap : Nat} {ty : TypeId} {U : List (ByteArray × Int)} (h : PairAt w base ty (some ⟨g, 0, none⟩) cap U) {i : Nat} (hi : i < U.length) (n : Int) : PairAt (w.setCell ⟨g, i * 2 + 1, none⟩ (.int .i64 n)) base ty (some ⟨g, 0, none⟩) cap (U.set i (U[i].1, n)) := by
  refine ⟨by rw [List.length_set]; exact h.le, h.max, ?_⟩
  rcases h.lies with ⟨h1, -, -⟩ | ⟨g', cs, e, hb, hB, hc⟩
  · cases h1
  cases e
  refine .inr ⟨g, cs.setIfInBounds (i * 2 + 1) (.int .i64 n), rfl, hb, hB.set _ _, fun j u hj => ?_⟩
  have hlt : j < U.length * 2 := by
    have := (List.getElem?_eq_some_iff.1 hj).1
    rw [pairRow_len, List.length_set] at this
    exact this
  have hjj : j = j / 2 * 2 + j % 2 := by omega
  have hjU : j / 2 < U.length := by omega
  have hold := hc (i * 2 + 1) _ (pairRow_at (j := 1) (List.getElem?_eq_getElem hi) (by omega))
  have hsz := (Array.getElem?_eq_some_iff.1 hold).1
  rw [Array.getElem?_setIfInBounds]
  by_cases e : i * 2 + 1 = j
  · rw [if_pos e, if_pos (by omega)]
    have hi2 : j / 2 = i := by omega
    have hm2 : j % 2 = 1 := by omega
    rw [hjj, pairRow_at (s := (U[i].1, n)) (by rw [hi2, List.getElem?_set_self hi]) (by omega), hm2] at hj
    exact hj
  · rw [if_neg e]
    refine hc j u ?_
    by_cases e2 : i = j / 2
    · have hm0 : j % 2 = 0 := by omega
      rw [hjj, pairRow_at (s := (U[i].1, n)) (by rw [← e2, List.getElem?_set_self hi]) (by omega), hm0] at hj
      rw [hjj, pairRow_at (s := U[i]) (by rw [← e2]; exact List.getElem?_eq_getElem hi) (by omega), hm0]
      exact hj
    · rw [hjj, pairRow_at (s := U[j / 2]) (by rw [List.getElem?_set_ne e2]; exact List.getElem?_eq_getElem hjU) (by omega)] at hj
      rw [hjj, pairRow_at (s := U[j / 2]) (List.getElem?_eq_getElem hjU) (by omega)]
      exact hj
/-- What the reference's crier is. -/
structure RcV where
  cook : ByteArray
  port : Int
  every : Int
  all : List (ByteArray × Int)
  heard : List (ByteArray × Int)
  now : Int
  sent : Int
  ever : Bool
def rcRow (aa ah : Option Addr) (ca ch : Nat) (r : RcV) : Array Value := #[.string r.cook, .int .i64 r.port, .int .i64 r.every, .slice aa r.all.length ca, .slice ah r.heard.length ch, .int .i64 r.now, .int .i64 r.sent, .bool r.ever]
/-- The reference's crier lies in block R. -/
structure RcAt (w : World) (R : Nat) (aa ah : Option Addr) (ca ch : Nat) (r : RcV) : Prop where
  row : Blk w R (rcRow aa ah ca ch r) 89
  all : PairAt w (R + 1) 92 aa ca r.all
  heard : w.ownsRow (R + 1) 95 2 (.slice ah r.heard.length ch) r.heard.length (pairRow r.heard)
/-- The blocks of the reference's crier. -/
def RcT (R : Nat) (aa ah : Option Addr) (k : Nat) : Prop := k = R ∨ (∃ x, aa = some x ∧ x.block = k) ∨ (∃ x, ah = some x ∧ x.block = k)
theorem RcAt.hears {w : World} {R : Nat} {aa ah : Option Addr} {ca ch : Nat} {r : RcV} (h : RcAt w R aa ah ca ch r) : PairAt w (R + 1) 95 ah ch r.heard := by
  obtain ⟨a, c, e, hp⟩ := pair_at_of h.heard
  cases e
  exact hp
theorem ownsP_mod {S : Nat → Prop} {w w' : World} {base : Nat} {e : TypeId} {k : Nat} {v : Value} {n : Nat} {xs : List Value} (h : w.ownsRow base e k v n xs) (hm : Mod S w w') (hs : ∀ g, v.ownBlock = some g → ¬ S g) : w'.ownsRow base e k v n xs := by
  rcases h.2 with ⟨rfl, hn⟩ | ⟨g, cap, cur, rfl, hbg, hg, r⟩
  · exact ⟨h.1, .inl ⟨rfl, hn⟩⟩
  · exact ⟨h.1, .inr ⟨g, cap, cur, rfl, hbg, (hm.block g (Array.getElem?_eq_some_iff.1 hg).1 (hs g rfl)).trans hg, r⟩⟩
theorem ownsP_new {w w' : World} {base : Nat} {e : TypeId} {k : Nat} {v : Value} {n : Nat} {xs : List Value} (h : w.ownsRow base e k v n xs) (hm : New w w') : w'.ownsRow base e k v n xs := ownsP_mod h hm (fun _ _ q => q)
theorem RcAt.mod {S : Nat → Prop} {w w' : World} {R : Nat} {aa ah : Option Addr} {ca ch : Nat} {r : RcV} (h : RcAt w R aa ah ca ch r) (hm : Mod S w w') (hn : ∀ k, RcT R aa ah k → ¬ S k) : RcAt w' R aa ah ca ch r :=
  ⟨hm.blk h.row (hn R (.inl rfl)), h.all.mod hm (fun x hx => hn _ (.inr (.inl ⟨x, hx, rfl⟩))), ownsP_mod h.heard hm (fun g hg => hn g (.inr (.inr (by
    cases ah with
    | none => cases hg
    | some x => exact ⟨x, rfl, by injection hg⟩))))⟩
theorem RcAt.new {w w' : World} {R : Nat} {aa ah : Option Addr} {ca ch : Nat} {r : RcV} (h : RcAt w R aa ah ca ch r) (hm : New w w') : RcAt w' R aa ah ca ch r := h.mod hm (fun _ _ q => q)
theorem blk_neP {w : World} {b b' : Nat} {cs cs' : Array Value} {t t' : TypeId} (h : Blk w b cs t) (h' : Blk w b' cs' t') (ht : t ≠ t') : b ≠ b' := by
  intro e
  subst e
  have q := h.symm.trans h'
  simp at q
  exact ht q.2
theorem RcAt.over {w : World} {R : Nat} {aa ah : Option Addr} {ca ch : Nat} {r : RcV} (h : RcAt w R aa ah ca ch r) : ∀ k, RcT R aa ah k → R ≤ k ∧ k < w.heap.size := by
  rintro k (rfl | ⟨x, hx, rfl⟩ | ⟨x, hx, rfl⟩)
  · exact ⟨Nat.le_refl _, h.row.lt⟩
  · obtain ⟨h1, cs, h2⟩ := h.all.blk hx
    exact ⟨by omega, h2.lt⟩
  · obtain ⟨h1, cs, h2⟩ := h.hears.blk hx
    exact ⟨by omega, h2.lt⟩
theorem RcAt.apart {w : World} {R : Nat} {aa ah : Option Addr} {ca ch : Nat} {r : RcV} (h : RcAt w R aa ah ca ch r) {x y : Addr} (hx : aa = some x) (hy : ah = some y) : x.block ≠ y.block := by
  obtain ⟨-, cs, h2⟩ := h.all.blk hx
  obtain ⟨-, cs', h3⟩ := h.hears.blk hy
  exact blk_neP h2 h3 (by decide)
/-- Another number in one of the crier's own cells. -/
theorem RcAt.time {w : World} {R : Nat} {aa ah : Option Addr} {ca ch : Nat} {r : RcV} (h : RcAt w R aa ah ca ch r) (t : Int) : RcAt (w.setCell ⟨R, 5, none⟩ (.int .i64 t)) R aa ah ca ch { r with now := t } := by
  have hm : Mod (fun k => k = R) w (w.setCell ⟨R, 5, none⟩ (.int .i64 t)) := Mod.set (Mod.refl _ _) _ _ (.inl rfl)
  refine ⟨(h.row.set 5 _).row (by simp [rcRow]), h.all.mod hm (fun x hx => ?_), ownsP_mod h.heard hm (fun g hg => ?_)⟩
  · have := (h.all.blk hx).1; omega
  · cases ah with
    | none => cases hg
    | some x =>
      injection hg with hg
      have := (h.hears.blk rfl).1
      omega
end Go.Proofs.YtnflhjagmngimaaGreatDoor

namespace Go.Proofs.YtnflhjagmngimaaGreatDoor
set_option linter.unusedSimpArgs false
set_option linter.unusedVariables false
open Go.RowKit Go.Shelf

theorem bytes_eq_iff {a b : ByteArray} : (a.toList == b.toList) = (a.data == b.data) := by
  rw [ByteArray.toList_eq, ByteArray.toList_eq]
  by_cases h : a.data = b.data
  · rw [h]; simp
  · have h2 : a.data.toList ≠ b.data.toList := by
      intro q
      exact h (by cases ha : a.data; cases hb : b.data; rw [ha, hb] at q; simp at q; rw [q])
    rw [beq_eq_false_iff_ne.2 h2, beq_eq_false_iff_ne.2 h]
/-- Where a name stands, -1 for nowhere. -/
def idxP (U : List (ByteArray × Int)) (k : ByteArray) : Int := if (U.findIdx fun x => x.1.data == k.data) < U.length then (((U.findIdx fun x => x.1.data == k.data) : Nat) : Int) else -1
theorem idx_at {U : List (ByteArray × Int)} {k : ByteArray} {i : Nat} (hi : i < U.length) (he : U[i].1.data = k.data) (hb : ∀ j (hj : j < U.length), j < i → U[j].1.data ≠ k.data) : idxP U k = i := by
  have h : (U.findIdx fun x => x.1.data == k.data) = i := (List.findIdx_eq hi).2 ⟨by simpa using he, fun j hj => by simpa using hb j (by omega) hj⟩
  unfold idxP
  rw [h, if_pos hi]
theorem idx_no {U : List (ByteArray × Int)} {k : ByteArray} (h : ∀ j (hj : j < U.length), U[j].1.data ≠ k.data) : idxP U k = -1 := by
  have e : (U.findIdx fun x => x.1.data == k.data) = U.length := List.findIdx_eq_length.2 (fun x hx => by
    obtain ⟨j, hj, rfl⟩ := List.getElem_of_mem hx
    simpa using h j hj)
  unfold idxP
  rw [e, if_neg (by omega)]
theorem idx_range (U : List (ByteArray × Int)) (k : ByteArray) : -1 ≤ idxP U k ∧ idxP U k < U.length := by
  unfold idxP
  split <;> omega
/-- How many messages of an IP were heard in a minute. -/
def cntP (U : List (ByteArray × Int)) (ip : ByteArray) (m : Int) : Nat := (U.filter fun x => x.1.data == ip.data && x.2 == m).length
theorem cnt_next {U : List (ByteArray × Int)} {ip : ByteArray} {m : Int} {j : Nat} (hj : j < U.length) : cntP (U.take (j + 1)) ip m = cntP (U.take j) ip m + (if (U[j].1.data == ip.data && U[j].2 == m) = true then 1 else 0) := by
  unfold cntP
  rw [List.take_succ_eq_append_getElem hj, List.filter_append, List.length_append]
  congr 1
  by_cases h : (U[j].1.data == ip.data && U[j].2 == m) = true
  · rw [if_pos h]; simp only [List.filter_cons, h, if_true, List.filter_nil, List.length_singleton]
  · rw [if_neg h]; simp only [List.filter_cons, h, List.filter_nil, List.length_nil]; rfl
theorem cnt_le (U : List (ByteArray × Int)) (ip : ByteArray) (m : Int) (j : Nat) : cntP (U.take j) ip m ≤ U.length := by
  unfold cntP
  have h1 := List.length_filter_le (fun x => x.1.data == ip.data && x.2 == m) (U.take j)
  rw [List.length_take] at h1
  omega
def RcV.atE (r : RcV) (t : Int) : Int := if t < r.now ∨ 1000000000 < t then 7 else 0
theorem rname_any (k : ByteArray) (w : World) (hs : k.size ≤ maxLen) : Calls Tryz.prog 55 #[.string k] w fun e w' => e = .returned (.bool (decide (k.size = 20))) ∧ w = w' := by
  unfold maxLen at hs
  have e1 : ((k.size : Int) == 20) = decide (k.size = 20) := by
    by_cases h : k.size = 20
    · rw [decide_eq_true h, beq_iff_eq]; omega
    · rw [decide_eq_false h, beq_eq_false_iff_ne]; omega
  go_enter Tryz.func55, Tryz.ntmps55
  go_wp2
  go_ret
  exact ⟨by simp [e1], rfl⟩
theorem rat_no (R : Nat) (aa ah : Option Addr) (ca ch : Nat) (r : RcV) (t : Int) (w : World) (h : RcAt w R aa ah ca ch r) (hno : r.atE t ≠ 0) : Calls Tryz.prog 58 #[.pointer (some ⟨R, 0, none⟩), .int .i64 t] w fun e w' => e = .returned (.int .i64 (r.atE t)) ∧ w = w' := by
  have c0 : w.cell? ⟨R, 5, none⟩ = some (.int .i64 r.now) := h.row.cellv 5 rfl
  have cl := h.row.lt
  obtain ⟨N, hN⟩ : ∃ N, N = r.now := ⟨_, rfl⟩
  unfold RcV.atE at hno ⊢
  rw [← hN] at c0 hno ⊢
  clear h hN
  by_cases g : t < N
  · rw [if_pos (.inl g)]
    clear hno
    go_enter Tryz.func58, Tryz.ntmps58
    go_wp2
    go_ret
    exact ⟨rfl, rfl⟩
  · by_cases g2 : 1000000000 < t
    · rw [if_pos (.inr g2)]
      clear hno
      go_enter Tryz.func58, Tryz.ntmps58
      go_wp2
      go_ret
      exact ⟨rfl, rfl⟩
    · rw [if_neg (by omega)] at hno
      exact absurd rfl hno
theorem rat_yes (R : Nat) (aa ah : Option Addr) (ca ch : Nat) (r : RcV) (t : Int) (w : World) (h : RcAt w R aa ah ca ch r) (hok : r.atE t = 0) : Calls Tryz.prog 58 #[.pointer (some ⟨R, 0, none⟩), .int .i64 t] w fun e w' => e = .returned (.int .i64 0) ∧ w' = w.setCell ⟨R, 5, none⟩ (.int .i64 t) := by
  have c0 : w.cell? ⟨R, 5, none⟩ = some (.int .i64 r.now) := h.row.cellv 5 rfl
  have cl := h.row.lt; have cf := h.row.frz 5
  obtain ⟨N, hN⟩ : ∃ N, N = r.now := ⟨_, rfl⟩
  unfold RcV.atE at hok
  rw [← hN] at c0 hok
  have g1 : ¬ t < N := fun q => by rw [if_pos (.inl q)] at hok; exact absurd hok (by decide)
  have g2 : ¬ 1000000000 < t := fun q => by rw [if_pos (.inr q)] at hok; exact absurd hok (by decide)
  clear h hN hok
  go_enter Tryz.func58, Tryz.ntmps58
  go_wp2
  go_ret
  exact ⟨rfl, rfl⟩
set_option maxRecDepth 100000 in
set_option maxHeartbeats 2000000 in
theorem find_any (R : Nat) (aa ah : Option Addr) (ca ch : Nat) (r : RcV) (key : ByteArray) (w : World) (h : RcAt w R aa ah ca ch r) (hl : r.all.length ≤ 200) : Calls Tryz.prog 56 #[.pointer (some ⟨R, 0, none⟩), .string key] w fun e w' => e = .returned (.int .i64 (idxP r.all key)) ∧ New w w' := by
  have HA := hid h.all
  have c3 : w.cell? ⟨R, 3, none⟩ = some (.slice aa r.all.length ca) := h.row.cellv 3 rfl
  have cl := h.row.lt
  have hc1 := h.all.le; have hc2 := h.all.max
  unfold maxLen at hc2
  obtain ⟨U, hU⟩ : ∃ U, U = r.all := ⟨_, rfl⟩
  rw [← hU] at HA c3 hl hc1 ⊢
  clear h hU
  go_enter Tryz.func56, Tryz.ntmps56
  go_wp2
  clear c3 cl
  go_loopw [12] (fun i wr => ∃ k : Nat, i = .int .i64 k ∧ k ≤ U.length ∧ (∀ j (hj : j < U.length), j < k → U[j].1.data ≠ key.data) ∧ New w wr) (fun i _ => U.length - (intOf i).toNat)
  case atStart => exact ⟨0, rfl, by omega, fun j _ hj => by omega, Mod.refl _ _⟩
  case round =>
    obtain ⟨k, rfl, hk, hb, hn⟩ := hrel
    have HB := hid hb; have HN := hid hn
    by_cases hlt : k < U.length
    · obtain ⟨g, rfl, hg, q0, q1, -, -⟩ := (HA.out.new hn).get hlt
      obtain ⟨s, hs⟩ : ∃ s, s = U[k].1 := ⟨_, rfl⟩
      obtain ⟨n, hn2⟩ : ∃ n, n = U[k].2 := ⟨_, rfl⟩
      rw [← hs] at q0
      rw [← hn2] at q1
      have HS := hid hs
      clear hb hn hs hn2
      cases heq : (s.toList == key.toList) with
      | true =>
        have HX := hid (idx_at hlt (by rw [← HS.out]; rw [bytes_eq_iff, beq_iff_eq] at heq; exact heq) HB.out)
        go_wp2
        go_ret
        exact ⟨by rw [HX.out]; rfl, HN.out.alloc _⟩
      | false =>
        have HX := hid (show s.data ≠ key.data by rw [bytes_eq_iff, beq_eq_false_iff_ne] at heq; exact heq)
        go_wp2
        exact ⟨⟨k + 1, by simp, by omega, fun j hj hjk => by
          by_cases e : j = k
          · subst e; rw [← HS.out]; exact HX.out
          · exact HB.out j hj (by omega), HN.out.alloc _⟩, by simp [intOf]; omega⟩
    · obtain rfl : k = U.length := by omega
      have HX := hid (idx_no (U := U) (k := key) (fun j hj => hb j hj hj))
      clear hb hn
      go_wp2
      go_ret
      exact ⟨by rw [HX.out]; rfl, HN.out⟩
set_option maxRecDepth 100000 in
set_option maxHeartbeats 2000000 in
theorem count_any (R : Nat) (aa ah : Option Addr) (ca ch : Nat) (r : RcV) (ip : ByteArray) (m : Int) (w : World) (h : RcAt w R aa ah ca ch r) (hl : r.heard.length ≤ 1000000) : Calls Tryz.prog 59 #[.pointer (some ⟨R, 0, none⟩), .string ip, .int .i64 m] w fun e w' => e = .returned (.int .i64 (cntP r.heard ip m)) ∧ New w w' := by
  have HA := hid h.hears
  have c3 : w.cell? ⟨R, 4, none⟩ = some (.slice ah r.heard.length ch) := h.row.cellv 4 rfl
  have cl := h.row.lt
  have hc1 := h.hears.le; have hc2 := h.hears.max
  unfold maxLen at hc2
  obtain ⟨U, hU⟩ : ∃ U, U = r.heard := ⟨_, rfl⟩
  rw [← hU] at HA c3 hl hc1 ⊢
  clear h hU
  have HLE := hid (fun j => cnt_le U ip m j)
  go_enter Tryz.func59, Tryz.ntmps59
  go_wp2
  clear c3 cl
  go_loopw [7, 15] (fun x i wr => ∃ (k n : Nat), i = .int .i64 k ∧ x = .int .i64 n ∧ n = cntP (U.take k) ip m ∧ k ≤ U.length ∧ New w wr) (fun _ i _ => U.length - (intOf i).toNat)
  case atStart => exact ⟨0, 0, rfl, rfl, rfl, by omega, Mod.refl _ _⟩
  case round =>
    obtain ⟨k, n, rfl, rfl, hnk, hk, hn⟩ := hrel
    have HB := hid hnk; have HN := hid hn
    have hn9 : n ≤ 1000000 := by have := HLE.out k; omega
    by_cases hlt : k < U.length
    · obtain ⟨g, rfl, hg, q0, q1, -, -⟩ := (HA.out.new hn).get hlt
      have hnx := cnt_next (ip := ip) (m := m) hlt
      rw [← hnk] at hnx
      obtain ⟨s, hs⟩ : ∃ s, s = U[k].1 := ⟨_, rfl⟩
      obtain ⟨z, hz⟩ : ∃ z, z = U[k].2 := ⟨_, rfl⟩
      rw [← hs] at q0
      rw [← hz] at q1
      rw [← hs, ← hz, ← bytes_eq_iff] at hnx
      have HX := hid hnx
      clear hnk hn hs hz hnx
      cases heq : (s.toList == ip.toList) with
      | true =>
        cases heq2 : (z == m) with
        | true =>
          rw [heq, heq2] at HX
          go_wp2
          exact ⟨⟨k + 1, n + 1, by simp, by simp, by rw [HX.out]; rfl, by omega, HN.out.alloc _⟩, by simp [intOf]; omega⟩
        | false =>
          rw [heq, heq2] at HX
          go_wp2
          exact ⟨⟨k + 1, n, by simp, by simp, by rw [HX.out]; rfl, by omega, HN.out.alloc _⟩, by simp [intOf]; omega⟩
      | false =>
        rw [heq] at HX
        go_wp2
        exact ⟨⟨k + 1, n, by simp, by simp, by rw [HX.out]; rfl, by omega, HN.out.alloc _⟩, by simp [intOf]; omega⟩
    · obtain rfl : k = U.length := by omega
      rw [List.take_length] at HB
      clear hnk hn
      go_wp2
      go_ret
      exact ⟨by rw [HB.out]; rfl, HN.out⟩
theorem rCookie_any (R : Nat) (aa ah : Option Addr) (ca ch : Nat) (r : RcV) (w : World) (h : RcAt w R aa ah ca ch r) : Calls Tryz.prog 31 #[.pointer (some ⟨R, 0, none⟩)] w fun e w' => e = .returned (.string r.cook) ∧ w' = w := by
  have c0 : w.cell? ⟨R, 0, none⟩ = some (.string r.cook) := h.row.cellv 0 rfl
  have cl := h.row.lt
  clear h
  go_enter Tryz.func31, Tryz.ntmps31
  go_wp2
  go_ret
  exact ⟨rfl, rfl⟩
/-- What Last answers. -/
def RcV.lastE (r : RcV) (k : ByteArray) : Int := if k.size = 20 then (if idxP r.all k < 0 ∨ (r.all.getD (idxP r.all k).toNat (⟨#[]⟩, -1)).2 < 0 then 8 else 0) else 1
def RcV.lastR (r : RcV) (k : ByteArray) : Int := if r.lastE k = 0 then (r.all.getD (idxP r.all k).toNat (⟨#[]⟩, -1)).2 else 0
set_option maxRecDepth 100000 in
set_option maxHeartbeats 2000000 in
theorem rLast_any (R : Nat) (aa ah : Option Addr) (ca ch : Nat) (r : RcV) (k : ByteArray) (w : World) (h : RcAt w R aa ah ca ch r) (hl : r.all.length ≤ 200) (hs : k.size ≤ maxLen) : Calls Tryz.prog 28 #[.pointer (some ⟨R, 0, none⟩), .string k] w fun e w' => e = .returned (.tuple #[.int .i64 (r.lastR k), .int .i64 (r.lastE k)]) ∧ New w w' := by
  have HN := hid (rname_any k w hs)
  have HF := hid (find_any R aa ah ca ch r k w h hl)
  have HR := hid h
  have hc1 := h.all.le; have hc2 := h.all.max
  unfold maxLen at hc2
  unfold RcV.lastR RcV.lastE
  by_cases g : k.size = 20
  · rw [if_pos g]
    rw [decide_eq_true g] at HN
    obtain ⟨r1, r2⟩ := idx_range r.all k
    obtain ⟨I, hI⟩ : ∃ I, I = idxP r.all k := ⟨_, rfl⟩
    rw [← hI] at HF r1 r2 ⊢
    clear h g hI
    by_cases gi : I < 0
    · rw [if_pos (show I < 0 ∨ (r.all.getD I.toNat (⟨#[]⟩, -1)).2 < 0 from .inl gi), if_neg (by decide)]
      go_enter Tryz.func28, Tryz.ntmps28
      go_wp2_with (first | (go_at_call 55; refine HN.out.mono ?_; rintro e w1 ⟨rfl, rfl⟩) | (go_at_call 56; refine HF.out.mono ?_; rintro e w2 ⟨rfl, n2⟩))
      have N2 := hid n2
      clear n2
      go_wp2
      go_ret2
      exact ⟨rfl, N2.out⟩
    · obtain ⟨i, rfl⟩ : ∃ i : Nat, I = i := ⟨I.toNat, by omega⟩
      have hi : i < r.all.length := by omega
      have hget : r.all.getD (i : Int).toNat (⟨#[]⟩, -1) = r.all[i] := by simp [hi]
      rw [hget]
      have HQ := hid (fun W (n : New w W) => (HR.out.new n).all.get hi)
      have HQ3 := hid (fun W (n : New w W) => (show W.cell? ⟨R, 3, none⟩ = some (.slice aa r.all.length ca) from (HR.out.new n).row.cellv 3 rfl))
      have HQL := hid (fun W (n : New w W) => (HR.out.new n).row.lt)
      obtain ⟨z, hz⟩ : ∃ z, z = r.all[i].2 := ⟨_, rfl⟩
      obtain ⟨s, hs2⟩ : ∃ s, s = r.all[i].1 := ⟨_, rfl⟩
      rw [← hz, ← hs2] at HQ
      rw [← hz]
      have hii : (i : Int) < (r.all.length : Int) := by omega
      have hi63 : (r.all.length : Int) ≤ 200 := by omega
      clear hget hz hs2 r1 r2
      by_cases gz : z < 0
      · rw [if_pos (show (i : Int) < 0 ∨ z < 0 from .inr gz), if_neg (by decide)]
        go_enter Tryz.func28, Tryz.ntmps28
        go_wp2_with (first | (go_at_call 55; refine HN.out.mono ?_; rintro e w1 ⟨rfl, rfl⟩) | (go_at_call 56; refine HF.out.mono ?_; rintro e w2 ⟨rfl, n2⟩; obtain ⟨g0, rfl, hg, q0, q1, -, -⟩ := HQ.out _ n2; have c3 := HQ3.out _ n2; have cl := HQL.out _ n2))
        have N2 := hid n2
        clear n2
        go_wp2
        go_ret2
        exact ⟨rfl, N2.out⟩
      · rw [if_neg (show ¬ ((i : Int) < 0 ∨ z < 0) by omega), if_pos rfl]
        go_enter Tryz.func28, Tryz.ntmps28
        go_wp2_with (first | (go_at_call 55; refine HN.out.mono ?_; rintro e w1 ⟨rfl, rfl⟩) | (go_at_call 56; refine HF.out.mono ?_; rintro e w2 ⟨rfl, n2⟩; obtain ⟨g0, rfl, hg, q0, q1, -, -⟩ := HQ.out _ n2; have c3 := HQ3.out _ n2; have cl := HQL.out _ n2))
        have N2 := hid n2
        clear n2
        go_wp2
        go_ret2
        exact ⟨rfl, N2.out⟩
  · rw [if_neg g, if_neg (by decide)]
    rw [decide_eq_false g] at HN
    clear h g
    go_enter Tryz.func28, Tryz.ntmps28
    go_wp2_with (go_at_call 55; refine HN.out.mono ?_; rintro e w1 ⟨rfl, rfl⟩)
    go_ret2
    exact ⟨rfl, Mod.refl _ _⟩
end Go.Proofs.YtnflhjagmngimaaGreatDoor
