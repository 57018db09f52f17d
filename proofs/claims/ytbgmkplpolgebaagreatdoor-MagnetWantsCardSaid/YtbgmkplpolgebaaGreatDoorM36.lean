/-
  Several texts in one, in their build order. Lists put behind one another (slices.Grow, slices.Concat), of texts and of addresses. Conditions: the lists lie as told; they are small. Each thing once (package magnet: once, with slices.Index and slices.Contains), of texts and of addresses. Conditions: the lists lie as told; they are small.
-/
import Derived.Test.YtbgmkplpolgebaaGreatDoorM30
import Derived.Laws.OwnMore
import Derived.Lib.AppendZeros
import Derived.Test.YtbgmkplpolgebaaGreatDoorM32
namespace Go.Proofs.YtbgmkplpolgebaaGreatDoor
set_option linter.unusedSimpArgs false
set_option linter.unusedVariables false
open Go.RowKit Go.Shelf

theorem grown_refl (w : World) (r : Option Nat) : w.grownBy w r := ⟨rfl, rfl, rfl, Nat.le_refl _, fun _ _ _ => rfl⟩
theorem srcS {w : World} {ad : Addr} {c : Nat} {p : List ByteArray} (h : StrsAt w (some ad) c p) : ∀ j u, (p.map Value.string)[j]? = some u → w.cell? (ad.add j) = some u := by
  intro j u hu
  rw [List.getElem?_map] at hu
  obtain ⟨s, hs, rfl⟩ := Option.map_eq_some_iff.1 hu
  rcases h.at' with rfl | ⟨b, o, e, hb, hc⟩
  · cases hs
  · injection e with e
    subst e
    rw [addrN]
    exact hc j s hs
theorem srcA {w : World} {ad : Addr} {c : Nat} {p : List AdrV} (h : AdrsAt w (some ad) c p) : ∀ j u, (adrRow p)[j]? = some u → w.cell? (ad.add j) = some u := by
  intro j u hu
  have hj := (List.getElem?_eq_some_iff.1 hu).1
  rw [adrRow_len] at hj
  have hi : j / 3 < p.length := by omega
  have e1 := adrRow_at (List.getElem?_eq_getElem hi) (show j % 3 < 3 by omega)
  rw [show j / 3 * 3 + j % 3 = j by omega, hu] at e1
  rcases h.at' with rfl | ⟨b, o, e, hb, hc⟩
  · simp at hi
  · injection e with e
    subst e
    rw [addrN]
    obtain ⟨c0, c1, c2⟩ := hc (j / 3) _ (List.getElem?_eq_getElem hi)
    have hm : j % 3 = 0 ∨ j % 3 = 1 ∨ j % 3 = 2 := by omega
    rcases hm with m | m | m
    · rw [m] at e1
      simp [adrCells] at e1
      subst e1
      rw [show o + j = o + j / 3 * 3 by omega]
      exact c0
    · rw [m] at e1
      simp [adrCells] at e1
      subst e1
      rw [show o + j = o + j / 3 * 3 + 1 by omega]
      exact c1
    · rw [m] at e1
      simp [adrCells] at e1
      subst e1
      rw [show o + j = o + j / 3 * 3 + 2 by omega]
      exact c2
theorem rowS_one : ∀ l : List ByteArray, ∀ u ∈ l.map Value.string, u.oneCell' = true := fun l u hu => by
  obtain ⟨s, -, rfl⟩ := List.mem_map.1 hu
  rfl
theorem rowA_one : ∀ l : List AdrV, ∀ u ∈ adrRow l, u.oneCell' = true
  | [], u, hu => by cases hu
  | x :: r, u, hu => by
    rcases List.mem_append.1 hu with q | q
    · simp [adrCells] at q
      rcases q with rfl | rfl | rfl <;> rfl
    · exact rowA_one r u q
theorem nil_ofS {w : World} {c : Nat} {p : List ByteArray} (h : StrsAt w none c p) : p = [] := by
  rcases h.at' with q | ⟨b, o, e, -⟩
  · exact q
  · cases e
theorem nil_ofA {w : World} {c : Nat} {p : List AdrV} (h : AdrsAt w none c p) : p = [] := by
  rcases h.at' with q | ⟨b, o, e, -⟩
  · exact q
  · cases e
/-- A list put behind an own one. -/
theorem cat_runS {w : World} {base : Nat} {v : Value} {l p : List ByteArray} {a : Option Addr} {c : Nat} (h : OwnS w base v l) (hp : StrsAt w a c p) (hnil : a = none → c = 0) (hl : l.length + p.length ≤ 100000) (hb : base ≤ w.heap.size) :
    ∃ v' w', (Builtin.append_ #[23, 23] 23 #[v, .slice a p.length c]).run Tryz.prog w = .ok v' w' ∧ OwnS w' base v' (l ++ p) ∧ w.grownBy w' v.ownBlock ∧ (v'.ownBlock = v.ownBlock ∨ ∃ g, v'.ownBlock = some g ∧ w.heap.size ≤ g) := by
  obtain ⟨i0, hi, hz0, hz1, hz2⟩ := info_parts info_strM
  cases a with
  | none =>
    obtain rfl := nil_ofS hp
    obtain rfl := hnil rfl
    exact ⟨v, w, run_append_owned_none (P := Tryz.prog) (w := w) base 23 23 9 i0 1 Tryz.underlying23 hi v l.length _ h.row, by rw [List.append_nil]; exact h, grown_refl _ _, .inl rfl⟩
  | some ad =>
    obtain ⟨v', w', hr, h2, h3, -, h5⟩ := run_append_own_at (P := Tryz.prog) w base 23 23 9 i0 _ 1 16 Tryz.underlying23 hi hz0 hz1 hz2 rfl (by decide) v l.length _ h.row ad p.length c (p.map Value.string) (by rw [List.length_map, Nat.mul_one]) (srcS hp) (rowS_one p) (by unfold maxLen; omega) (by omega) hb
    refine ⟨v', w', hr, ⟨by rw [List.length_append, List.map_append]; exact h2, fun x hx => ?_⟩, h3, ?_⟩
    · rcases List.mem_append.1 hx with q | q
      · exact h.small x q
      · exact hp.small x q
    · exact h5.imp id (fun q => ⟨_, q, Nat.le_refl _⟩)
theorem cat_runA {w : World} {base : Nat} {v : Value} {l p : List AdrV} {a : Option Addr} {c : Nat} (h : OwnA w base v l) (hp : AdrsAt w a c p) (hnil : a = none → c = 0) (hl : l.length + p.length ≤ 100000) (hb : base ≤ w.heap.size) :
    ∃ v' w', (Builtin.append_ #[24, 24] 24 #[v, .slice a p.length c]).run Tryz.prog w = .ok v' w' ∧ OwnA w' base v' (l ++ p) ∧ w.grownBy w' v.ownBlock ∧ (v'.ownBlock = v.ownBlock ∨ ∃ g, v'.ownBlock = some g ∧ w.heap.size ≤ g) := by
  obtain ⟨i0, hi, hz0, hz1, hz2⟩ := info_parts info_adrM
  cases a with
  | none =>
    obtain rfl := nil_ofA hp
    obtain rfl := hnil rfl
    exact ⟨v, w, run_append_owned_none (P := Tryz.prog) (w := w) base 24 24 64 i0 3 Tryz.underlying24 hi v l.length _ h.row, by rw [List.append_nil]; exact h, grown_refl _ _, .inl rfl⟩
  | some ad =>
    obtain ⟨v', w', hr, h2, h3, -, h5⟩ := run_append_own_at (P := Tryz.prog) w base 24 24 64 i0 _ 3 32 Tryz.underlying24 hi hz0 hz1 hz2 rfl (by decide) v l.length _ h.row ad p.length c (adrRow p) (adrRow_len p) (srcA hp) (rowA_one p) (by unfold maxLen; omega) (by omega) hb
    exact ⟨v', w', hr, ⟨by rw [List.length_append, adrRow_app]; exact h2⟩, h3, h5.imp id (fun q => ⟨_, q, Nat.le_refl _⟩)⟩
set_option maxRecDepth 100000 in
set_option maxHeartbeats 1000000 in
theorem growS_any (n : Nat) (w : World) (hn : n ≤ 100000) : Calls Tryz.prog 142 #[.slice none 0 0, .int .i64 n] w fun e w' => ∃ v, e = .returned v ∧ OwnS w' w.heap.size v [] ∧ New w w' := by
  obtain ⟨i0, hi, hz0, hz1, hz2⟩ := info_parts info_strM
  by_cases h0 : n = 0
  · subst h0
    go_enter Tryz.func142, Tryz.ntmps142
    go_wp2
    go_ret
    exact ⟨_, rfl, OwnS.nil _ _, Mod.refl _ _⟩
  · have hI : (0 : Int) < (n : Int) := by omega
    have hI2 : ¬ (n : Int) < 0 := by omega
    have hrun := Lib.run_append_nil_zeros (P := Tryz.prog) w 23 3 23 9 i0 _ .i64 .i64 Tryz.underlying23 Tryz.underlying3 hi hz0 n (by omega) (by rw [hz1]; omega) (by omega) (by rw [hz2]; omega)
    obtain ⟨cap, hcap⟩ : ∃ cap, cap = grownCap w n 0 9 := ⟨_, rfl⟩
    have hc1 : n ≤ cap := by rw [hcap]; exact grownCap_ge _ _ _ _
    have hc2 : cap ≤ maxLen := by rw [hcap]; exact grownCap_le_maxLen _ _ _ _ (by unfold maxLen; omega)
    rw [← hcap] at hrun
    obtain ⟨cs, hcs⟩ : ∃ cs, cs = Builtin.zeroCells (Value.cells (.string ⟨#[]⟩)) n ++ Builtin.zeroCells (Value.cells (.string ⟨#[]⟩)) (cap - n) := ⟨_, rfl⟩
    rw [← hcs] at hrun
    have hsz : cs.size = cap * 1 := by
      rw [hcs, Array.size_append, size_zeroCells, size_zeroCells, ← Nat.add_mul, show n + (cap - n) = cap by omega]
      rfl
    have HB := hid (Blk.newAt (w := w.drew) (b := w.heap.size) (cs := cs) (t := 9) (by simp))
    have HN := hid (((Mod.refl (fun _ => False) w).drew).alloc (.cells cs 9))
    have HSZ := hid hsz; have HC2 := hid hc2
    unfold maxLen at hc2
    clear hcs hsz hcap h0
    go_enter Tryz.func142, Tryz.ntmps142
    go_wp2_with (first | (at_builtin; refine Lib.wpList_append_run _ rfl _ _ _ _ rfl _ _ rfl rfl _ _ hrun ?_) | fail)
    go_ret
    exact ⟨_, rfl, ⟨⟨rfl, .inr ⟨_, cap, cs, rfl, Nat.le_refl _, HB.out, Nat.zero_le _, HC2.out, HSZ.out, by rw [List.length_nil, Nat.zero_mul]; rfl⟩⟩, by simp⟩, HN.out⟩
set_option maxRecDepth 100000 in
set_option maxHeartbeats 1000000 in
theorem growA_any (n : Nat) (w : World) (hn : n ≤ 100000) : Calls Tryz.prog 144 #[.slice none 0 0, .int .i64 n] w fun e w' => ∃ v, e = .returned v ∧ OwnA w' w.heap.size v [] ∧ New w w' := by
  obtain ⟨i0, hi, hz0, hz1, hz2⟩ := info_parts info_adrM
  by_cases h0 : n = 0
  · subst h0
    go_enter Tryz.func144, Tryz.ntmps144
    go_wp2
    go_ret
    exact ⟨_, rfl, OwnA.nil _ _, Mod.refl _ _⟩
  · have hI : (0 : Int) < (n : Int) := by omega
    have hI2 : ¬ (n : Int) < 0 := by omega
    have hrun := Lib.run_append_nil_zeros (P := Tryz.prog) w 24 3 24 64 i0 _ .i64 .i64 Tryz.underlying24 Tryz.underlying3 hi hz0 n (by omega) (by rw [hz1]; omega) (by omega) (by rw [hz2]; omega)
    obtain ⟨cap, hcap⟩ : ∃ cap, cap = grownCap w n 0 64 := ⟨_, rfl⟩
    have hc1 : n ≤ cap := by rw [hcap]; exact grownCap_ge _ _ _ _
    have hc2 : cap ≤ maxLen := by rw [hcap]; exact grownCap_le_maxLen _ _ _ _ (by unfold maxLen; omega)
    rw [← hcap] at hrun
    obtain ⟨cs, hcs⟩ : ∃ cs, cs = Builtin.zeroCells (Value.cells (.agg #[.int .i64 0, .string ⟨#[]⟩, .int .i64 0])) n ++ Builtin.zeroCells (Value.cells (.agg #[.int .i64 0, .string ⟨#[]⟩, .int .i64 0])) (cap - n) := ⟨_, rfl⟩
    rw [← hcs] at hrun
    have hsz : cs.size = cap * 3 := by
      rw [hcs, Array.size_append, size_zeroCells, size_zeroCells, ← Nat.add_mul, show n + (cap - n) = cap by omega]
      rfl
    have HB := hid (Blk.newAt (w := w.drew) (b := w.heap.size) (cs := cs) (t := 64) (by simp))
    have HN := hid (((Mod.refl (fun _ => False) w).drew).alloc (.cells cs 64))
    have HSZ := hid hsz; have HC2 := hid hc2
    unfold maxLen at hc2
    clear hcs hsz hcap h0
    go_enter Tryz.func144, Tryz.ntmps144
    go_wp2_with (first | (at_builtin; refine Lib.wpList_append_run _ rfl _ _ _ _ rfl _ _ rfl rfl _ _ hrun ?_) | fail)
    go_ret
    exact ⟨_, rfl, ⟨⟨rfl, .inr ⟨_, cap, cs, rfl, Nat.le_refl _, HB.out, Nat.zero_le _, HC2.out, HSZ.out, by rw [List.length_nil, Nat.zero_mul]; rfl⟩⟩⟩, HN.out⟩
set_option maxRecDepth 100000 in
set_option maxHeartbeats 4000000 in
theorem concS_any (a b : Option Addr) (c d : Nat) (p q : List ByteArray) (X cx : Nat) (w : World) (hx0 : w.cell? ⟨X, 0, none⟩ = some (.slice a p.length c)) (hx1 : w.cell? ⟨X, 1, none⟩ = some (.slice b q.length d)) (hcx : 2 ≤ cx) (hcx2 : cx ≤ maxLen)
    (hp : StrsAt w a c p) (hq : StrsAt w b d q) (ha : a = none → c = 0) (hb : b = none → d = 0) (hl : p.length + q.length ≤ 50000) :
    Calls Tryz.prog 94 #[.slice (some ⟨X, 0, none⟩) 2 cx] w fun e w' => ∃ v, e = .returned v ∧ OwnS w' w.heap.size v (p ++ q) ∧ New w w' := by
  unfold maxLen at hcx2
  have hXl := World.block_lt_of_cell? _ _ hx0
  have HX0 := hid hx0; have HX1 := hid hx1; have HP := hid hp; have HQ := hid hq; have HA := hid ha; have HBN := hid hb
  have HGR := hid (fun W => growS_any (p.length + q.length) W (by omega))
  have hw1 : IntKind.i64.wrap ((p.length : Int)) = (p.length : Int) := by rw [IntKind.wrap_i64]; omega
  have hw2 : IntKind.i64.wrap ((p.length : Int) + (q.length : Int)) = (p.length : Int) + (q.length : Int) := by rw [IntKind.wrap_i64]; omega
  have hn1 : ¬ (p.length : Int) < 0 := by omega
  have hn2 : ¬ (p.length : Int) + (q.length : Int) < 0 := by omega
  clear hp hq ha hb
  go_enter Tryz.func94, Tryz.ntmps94
  go_wp2
  go_loop [3, 11] (fun sz i => ∃ k : Nat, i = .int .i64 k ∧ ((k = 0 ∧ sz = .int .i64 0) ∨ (k = 1 ∧ sz = .int .i64 p.length) ∨ (k = 2 ∧ sz = .int .i64 ((p.length + q.length : Nat) : Int)))) (fun _ i => 2 - (intOf i).toNat)
  case atStart => exact ⟨0, rfl, .inl ⟨rfl, rfl⟩⟩
  case round =>
    obtain ⟨k, rfl, ⟨rfl, rfl⟩ | ⟨rfl, rfl⟩ | ⟨rfl, rfl⟩⟩ := hrel
    · go_wp2
      exact ⟨⟨1, by simp, .inr (.inl ⟨rfl, rfl⟩)⟩, by simp [intOf]⟩
    · go_wp2
      exact ⟨⟨2, by simp, .inr (.inr ⟨rfl, by simp⟩)⟩, by simp [intOf]⟩
    · clear hx0 hx1
      go_wp2_with fail
      refine (HGR.out _).mono ?_
      rintro e w1 ⟨v0, rfl, ho, n1⟩
      have HO := hid ho
      have N1 := hid n1
      clear ho n1
      go_wp2
      go_loopw [6, 27] (fun v i wr => ∃ k : Nat, i = .int .i64 k ∧ ((k = 0 ∧ OwnS wr w.heap.size v []) ∨ (k = 1 ∧ OwnS wr w.heap.size v p) ∨ (k = 2 ∧ OwnS wr w.heap.size v (p ++ q))) ∧ New w wr) (fun _ i _ => 2 - (intOf i).toNat)
      case atStart => exact ⟨0, rfl, .inl ⟨rfl, HO.out⟩, N1.out⟩
      case round =>
        obtain ⟨k, rfl, hk, hn⟩ := hrel
        have HN := hid hn
        rcases hk with ⟨rfl, ho⟩ | ⟨rfl, ho⟩ | ⟨rfl, ho⟩
        · have x0 := hn.cellv HX0.out
          obtain ⟨v', w', hr, h2, h3, -⟩ := cat_runS ho (HP.out.new hn) HA.out (by simp; omega) hn.size
          have H2 := hid h2
          have NN := hid (newGrown hn h3 (fun j hj => (ho.block hj).1))
          clear ho hn h2 h3
          go_wp2_with (first | (at_builtin; refine Lib.wpList_append_run _ rfl _ _ _ _ rfl _ _ rfl rfl _ _ hr ?_) | fail)
          exact ⟨⟨1, by simp, .inr (.inl ⟨rfl, by have := H2.out; rwa [List.nil_append] at this⟩), NN.out⟩, by simp [intOf]⟩
        · have x0 := hn.cellv HX1.out
          obtain ⟨v', w', hr, h2, h3, -⟩ := cat_runS ho (HQ.out.new hn) HBN.out (by omega) hn.size
          have H2 := hid h2
          have NN := hid (newGrown hn h3 (fun j hj => (ho.block hj).1))
          clear ho hn h2 h3
          go_wp2_with (first | (at_builtin; refine Lib.wpList_append_run _ rfl _ _ _ _ rfl _ _ rfl rfl _ _ hr ?_) | fail)
          exact ⟨⟨2, by simp, .inr (.inr ⟨rfl, H2.out⟩), NN.out⟩, by simp [intOf]⟩
        · have HO2 := hid ho
          clear ho hn
          go_wp2
          go_ret
          exact ⟨_, rfl, HO2.out, HN.out⟩
set_option maxRecDepth 100000 in
set_option maxHeartbeats 4000000 in
theorem concA_any (a b : Option Addr) (c d : Nat) (p q : List AdrV) (X cx : Nat) (w : World) (hx0 : w.cell? ⟨X, 0, none⟩ = some (.slice a p.length c)) (hx1 : w.cell? ⟨X, 1, none⟩ = some (.slice b q.length d)) (hcx : 2 ≤ cx) (hcx2 : cx ≤ maxLen)
    (hp : AdrsAt w a c p) (hq : AdrsAt w b d q) (ha : a = none → c = 0) (hb : b = none → d = 0) (hl : p.length + q.length ≤ 50000) :
    Calls Tryz.prog 96 #[.slice (some ⟨X, 0, none⟩) 2 cx] w fun e w' => ∃ v, e = .returned v ∧ OwnA w' w.heap.size v (p ++ q) ∧ New w w' := by
  unfold maxLen at hcx2
  have hXl := World.block_lt_of_cell? _ _ hx0
  have HX0 := hid hx0; have HX1 := hid hx1; have HP := hid hp; have HQ := hid hq; have HA := hid ha; have HBN := hid hb
  have HGR := hid (fun W => growA_any (p.length + q.length) W (by omega))
  have hw1 : IntKind.i64.wrap ((p.length : Int)) = (p.length : Int) := by rw [IntKind.wrap_i64]; omega
  have hw2 : IntKind.i64.wrap ((p.length : Int) + (q.length : Int)) = (p.length : Int) + (q.length : Int) := by rw [IntKind.wrap_i64]; omega
  have hn1 : ¬ (p.length : Int) < 0 := by omega
  have hn2 : ¬ (p.length : Int) + (q.length : Int) < 0 := by omega
  clear hp hq ha hb
  go_enter Tryz.func96, Tryz.ntmps96
  go_wp2
  go_loop [3, 11] (fun sz i => ∃ k : Nat, i = .int .i64 k ∧ ((k = 0 ∧ sz = .int .i64 0) ∨ (k = 1 ∧ sz = .int .i64 p.length) ∨ (k = 2 ∧ sz = .int .i64 ((p.length + q.length : Nat) : Int)))) (fun _ i => 2 - (intOf i).toNat)
  case atStart => exact ⟨0, rfl, .inl ⟨rfl, rfl⟩⟩
  case round =>
    obtain ⟨k, rfl, ⟨rfl, rfl⟩ | ⟨rfl, rfl⟩ | ⟨rfl, rfl⟩⟩ := hrel
    · go_wp2
      exact ⟨⟨1, by simp, .inr (.inl ⟨rfl, rfl⟩)⟩, by simp [intOf]⟩
    · go_wp2
      exact ⟨⟨2, by simp, .inr (.inr ⟨rfl, by simp⟩)⟩, by simp [intOf]⟩
    · clear hx0 hx1
      go_wp2_with fail
      refine (HGR.out _).mono ?_
      rintro e w1 ⟨v0, rfl, ho, n1⟩
      have HO := hid ho
      have N1 := hid n1
      clear ho n1
      go_wp2
      go_loopw [6, 27] (fun v i wr => ∃ k : Nat, i = .int .i64 k ∧ ((k = 0 ∧ OwnA wr w.heap.size v []) ∨ (k = 1 ∧ OwnA wr w.heap.size v p) ∨ (k = 2 ∧ OwnA wr w.heap.size v (p ++ q))) ∧ New w wr) (fun _ i _ => 2 - (intOf i).toNat)
      case atStart => exact ⟨0, rfl, .inl ⟨rfl, HO.out⟩, N1.out⟩
      case round =>
        obtain ⟨k, rfl, hk, hn⟩ := hrel
        have HN := hid hn
        rcases hk with ⟨rfl, ho⟩ | ⟨rfl, ho⟩ | ⟨rfl, ho⟩
        · have x0 := hn.cellv HX0.out
          obtain ⟨v', w', hr, h2, h3, -⟩ := cat_runA ho (HP.out.new hn) HA.out (by simp; omega) hn.size
          have H2 := hid h2
          have NN := hid (newGrown hn h3 (fun j hj => (ho.block hj).1))
          clear ho hn h2 h3
          go_wp2_with (first | (at_builtin; refine Lib.wpList_append_run _ rfl _ _ _ _ rfl _ _ rfl rfl _ _ hr ?_) | fail)
          exact ⟨⟨1, by simp, .inr (.inl ⟨rfl, by have := H2.out; rwa [List.nil_append] at this⟩), NN.out⟩, by simp [intOf]⟩
        · have x0 := hn.cellv HX1.out
          obtain ⟨v', w', hr, h2, h3, -⟩ := cat_runA ho (HQ.out.new hn) HBN.out (by omega) hn.size
          have H2 := hid h2
          have NN := hid (newGrown hn h3 (fun j hj => (ho.block hj).1))
          clear ho hn h2 h3
          go_wp2_with (first | (at_builtin; refine Lib.wpList_append_run _ rfl _ _ _ _ rfl _ _ rfl rfl _ _ hr ?_) | fail)
          exact ⟨⟨2, by simp, .inr (.inr ⟨rfl, H2.out⟩), NN.out⟩, by simp [intOf]⟩
        · have HO2 := hid ho
          clear ho hn
          go_wp2
          go_ret
          exact ⟨_, rfl, HO2.out, HN.out⟩
end Go.Proofs.YtbgmkplpolgebaaGreatDoor

namespace Go.Proofs.YtbgmkplpolgebaaGreatDoor
set_option linter.unusedSimpArgs false
set_option linter.unusedVariables false
open Go.RowKit Go.Shelf

def hasX {α : Type} [DecidableEq α] (x : α) (p : List α) : Bool := decide (x ∈ p)
theorem mem_upto {α : Type} [DecidableEq α] {p : List α} {x : α} {k : Nat} (hk : ¬ k < p.length) (h : ∀ (j : Nat) (hj : j < p.length), j < k → ¬ x = p[j]) : hasX x p = false := by
  unfold hasX
  apply decide_eq_false
  intro q
  obtain ⟨j, hj, e⟩ := List.mem_iff_getElem.1 q
  exact h j hj (by omega) e.symm
theorem mem_at {α : Type} [DecidableEq α] {p : List α} {x : α} {k : Nat} (hk : k < p.length) (h : x = p[k]) : hasX x p = true := by
  unfold hasX
  apply decide_eq_true
  rw [h]
  exact List.getElem_mem hk
set_option maxRecDepth 100000 in
set_option maxHeartbeats 2000000 in
theorem indexS_any (a : Option Addr) (c : Nat) (p : List ByteArray) (x : ByteArray) (w : World) (h : StrsAt w a c p) :
    Calls Tryz.prog 143 #[.slice a p.length c, .string x] w fun e w' => ∃ v : Int, e = .returned (.int .i64 v) ∧ decide (v ≥ 0) = hasX x p ∧ w = w' := by
  have hm1 := h.room; have hm2 := h.cap
  unfold maxLen at hm2
  by_cases hz : 0 < p.length
  · obtain ⟨b1, o1, rfl, hb1, hc1⟩ := h.get hz
    clear h
    go_enter Tryz.func143, Tryz.ntmps143
    go_wp2
    go_loopw [8] (fun i wr => ∃ k : Nat, i = .int .i64 k ∧ k ≤ p.length ∧ (∀ (j : Nat) (hj : j < p.length), j < k → ¬ x = p[j]) ∧ wr = w) (fun i _ => p.length - (intOf i).toNat)
    case atStart => exact ⟨0, rfl, by omega, by intros; omega, rfl⟩
    case round =>
      obtain ⟨k, rfl, hk, hb, rfl⟩ := hrel
      have HB := hid hb
      clear hb
      by_cases hlt : k < p.length
      · have g1 := hc1 k hlt
        have HC1 := hid hc1
        clear hc1
        by_cases he : x = p[k]
        · have hb2 := (neS he).1
          have HE := hid (mem_at hlt he)
          clear he
          go_wp2
          go_ret
          exact ⟨k, rfl, by rw [HE.out]; simp, rfl⟩
        · have hb2 := (neN he).1
          have HE := hid he
          clear he
          go_wp2
          exact ⟨⟨k + 1, by simp, by omega, fun j hj h => by rcases Nat.lt_succ_iff_lt_or_eq.1 h with h | h; exact HB.out j hj h; subst h; exact HE.out, trivial⟩, by simp [intOf]; omega⟩
      · have HE := hid (mem_upto hlt (fun j hj h => HB.out j hj h))
        clear hc1
        go_wp2
        go_ret
        exact ⟨-1, rfl, by rw [HE.out]; rfl, rfl⟩
  · obtain rfl : p = [] := List.eq_nil_of_length_eq_zero (by omega)
    clear h
    go_enter Tryz.func143, Tryz.ntmps143
    go_wp2
    refine wp_loop_rounds 1 ?_
    rw [rounds_succ]
    go_wp2
    go_ret
    exact ⟨-1, rfl, rfl, rfl⟩
theorem contS_any (a : Option Addr) (c : Nat) (p : List ByteArray) (x : ByteArray) (w : World) (h : StrsAt w a c p) :
    Calls Tryz.prog 95 #[.slice a p.length c, .string x] w fun e w' => e = .returned (.bool (hasX x p)) ∧ New w w' := by
  have HI := hid (indexS_any a c p x w h)
  obtain ⟨D, hD⟩ : ∃ D, D = hasX x p := ⟨_, rfl⟩
  rw [← hD] at HI ⊢
  clear h hD
  go_enter Tryz.func95, Tryz.ntmps95
  go_wp2_with fail
  refine HI.out.mono ?_
  rintro e w1 ⟨v, rfl, hv, rfl⟩
  have HV := hid hv
  clear hv
  go_wp2
  go_ret
  exact ⟨ret_bool HV.out, Mod.refl _ _⟩
set_option maxRecDepth 100000 in
set_option maxHeartbeats 4000000 in
theorem indexA_any (a : Option Addr) (c : Nat) (p : List AdrV) (x : AdrV) (w : World) (h : AdrsAt w a c p) :
    Calls Tryz.prog 145 #[.slice a p.length c, adrVM x] w fun e w' => ∃ v : Int, e = .returned (.int .i64 v) ∧ decide (v ≥ 0) = hasX x p ∧ New w w' := by
  have hm1 := h.room; have hm2 := h.cap
  unfold maxLen at hm2
  have HBX := hid (Blk.new w #[.int .i64 x.fam, .string x.ip, .int .i64 x.port] 64)
  have HNX := hid ((Mod.refl _ w).alloc (.cells #[.int .i64 x.fam, .string x.ip, .int .i64 x.port] 64) : New w _)
  unfold adrVM
  by_cases hz : 0 < p.length
  · obtain ⟨b1, o1, rfl, hb1, hc1⟩ := h.get hz
    have HC1 := hid hc1
    clear h hc1
    go_enter Tryz.func145, Tryz.ntmps145
    go_wp2
    go_loopw [8] (fun i wr => ∃ k : Nat, i = .int .i64 k ∧ k ≤ p.length ∧ (∀ (j : Nat) (hj : j < p.length), j < k → ¬ x = p[j]) ∧ New (w.alloc (.cells #[.int .i64 x.fam, .string x.ip, .int .i64 x.port] 64)) wr) (fun i _ => p.length - (intOf i).toNat)
    case atStart => exact ⟨0, rfl, by omega, by intros; omega, Mod.refl _ _⟩
    case round =>
      obtain ⟨k, rfl, hk, hb, hn⟩ := hrel
      have HB := hid hb
      have HN := hid hn
      have HNW : Hid (New w wr) := hid (HNX.out.trans hn)
      clear hb hn
      by_cases hlt : k < p.length
      · obtain ⟨g0, g1, g2⟩ := HC1.out k hlt
        have g0 := HNW.out.cellv g0; have g1 := HNW.out.cellv g1; have g2 := HNW.out.cellv g2
        have BX := New.blk HN.out HBX.out
        have x0 := BX.cellv 0 rfl; have x1 := BX.cellv 1 rfl; have x2 := BX.cellv 2 rfl
        have HYE := hid (fun (he : x = p[k]) => mem_at hlt he)
        have HNE := hid (fun (he : ¬ x = p[k]) (j : Nat) (hj : j < p.length) (h : j < k + 1) => show ¬ x = p[j] by rcases Nat.lt_succ_iff_lt_or_eq.1 h with h | h; exact HB.out j hj h; subst h; exact he)
        obtain ⟨y, hy⟩ : ∃ y, y = p[k] := ⟨_, rfl⟩
        rw [← hy] at g0 g1 g2 HYE HNE
        clear hy BX
        by_cases h1 : x.fam = y.fam
        · have c1 : (x.fam == y.fam) = true := by rw [beq_iff_eq]; exact h1
          by_cases h2 : x.ip = y.ip
          · have c2 : (x.ip.toList == y.ip.toList) = true := toL_iff.2 h2
            by_cases h3 : x.port = y.port
            · have c3 : (x.port == y.port) = true := by rw [beq_iff_eq]; exact h3
              have HE := hid (HYE.out (adr_eq h1 h2 h3))
              clear h1 h2 h3
              go_wp2_with fail
              go_region_held3 (fun w' => w'.cell? ⟨w.heap.size, 0, none⟩ = some (.int .i64 x.fam) ∧ w'.cell? ⟨w.heap.size, 1, none⟩ = some (.string x.ip) ∧ w'.cell? ⟨w.heap.size, 2, none⟩ = some (.int .i64 x.port) ∧ w'.cell? ⟨b1, o1 + k * 3, none⟩ = some (.int .i64 y.fam) ∧ w'.cell? ⟨b1, o1 + k * 3 + 1, none⟩ = some (.string y.ip) ∧ w'.cell? ⟨b1, o1 + k * 3 + 2, none⟩ = some (.int .i64 y.port)) (go_keep) (fail)
              go_wp2
              go_ret
              exact ⟨k, rfl, by rw [HE.out]; simp, HNW.out.drew⟩
            · have c3 : (x.port == y.port) = false := by rw [beq_eq_false_iff_ne]; exact h3
              have HE := hid (HNE.out (fun e => h3 (by rw [e])))
              clear h1 h2 h3
              go_wp2_with fail
              go_region_held3 (fun w' => w'.cell? ⟨w.heap.size, 0, none⟩ = some (.int .i64 x.fam) ∧ w'.cell? ⟨w.heap.size, 1, none⟩ = some (.string x.ip) ∧ w'.cell? ⟨w.heap.size, 2, none⟩ = some (.int .i64 x.port) ∧ w'.cell? ⟨b1, o1 + k * 3, none⟩ = some (.int .i64 y.fam) ∧ w'.cell? ⟨b1, o1 + k * 3 + 1, none⟩ = some (.string y.ip) ∧ w'.cell? ⟨b1, o1 + k * 3 + 2, none⟩ = some (.int .i64 y.port)) (go_keep) (fail)
              go_wp2
              exact ⟨⟨k + 1, by simp, by omega, HE.out, HN.out.drew⟩, by simp [intOf]; omega⟩
          · have c2 : (x.ip.toList == y.ip.toList) = false := by rw [two_eq]; exact decide_eq_false h2
            have HE := hid (HNE.out (fun e => h2 (by rw [e])))
            clear h1 h2
            go_wp2_with fail
            go_region_held3 (fun w' => w'.cell? ⟨w.heap.size, 0, none⟩ = some (.int .i64 x.fam) ∧ w'.cell? ⟨w.heap.size, 1, none⟩ = some (.string x.ip) ∧ w'.cell? ⟨w.heap.size, 2, none⟩ = some (.int .i64 x.port) ∧ w'.cell? ⟨b1, o1 + k * 3, none⟩ = some (.int .i64 y.fam) ∧ w'.cell? ⟨b1, o1 + k * 3 + 1, none⟩ = some (.string y.ip) ∧ w'.cell? ⟨b1, o1 + k * 3 + 2, none⟩ = some (.int .i64 y.port)) (go_keep) (fail)
            go_wp2
            exact ⟨⟨k + 1, by simp, by omega, HE.out, HN.out.drew⟩, by simp [intOf]; omega⟩
        · have c1 : (x.fam == y.fam) = false := by rw [beq_eq_false_iff_ne]; exact h1
          have HE := hid (HNE.out (fun e => h1 (by rw [e])))
          clear h1
          go_wp2_with fail
          go_region_held3 (fun w' => w'.cell? ⟨w.heap.size, 0, none⟩ = some (.int .i64 x.fam) ∧ w'.cell? ⟨w.heap.size, 1, none⟩ = some (.string x.ip) ∧ w'.cell? ⟨w.heap.size, 2, none⟩ = some (.int .i64 x.port) ∧ w'.cell? ⟨b1, o1 + k * 3, none⟩ = some (.int .i64 y.fam) ∧ w'.cell? ⟨b1, o1 + k * 3 + 1, none⟩ = some (.string y.ip) ∧ w'.cell? ⟨b1, o1 + k * 3 + 2, none⟩ = some (.int .i64 y.port)) (go_keep) (fail)
          go_wp2
          exact ⟨⟨k + 1, by simp, by omega, HE.out, HN.out.drew⟩, by simp [intOf]; omega⟩
      · have HE := hid (mem_upto hlt (fun j hj h => HB.out j hj h))
        go_wp2
        go_ret
        exact ⟨-1, rfl, by rw [HE.out]; rfl, HNW.out⟩
  · obtain rfl : p = [] := List.eq_nil_of_length_eq_zero (by omega)
    clear h
    go_enter Tryz.func145, Tryz.ntmps145
    go_wp2
    refine wp_loop_rounds 1 ?_
    rw [rounds_succ]
    go_wp2
    go_ret
    exact ⟨-1, rfl, rfl, HNX.out⟩
theorem contA_any (a : Option Addr) (c : Nat) (p : List AdrV) (x : AdrV) (w : World) (h : AdrsAt w a c p) :
    Calls Tryz.prog 97 #[.slice a p.length c, adrVM x] w fun e w' => e = .returned (.bool (hasX x p)) ∧ New w w' := by
  have HNX := hid ((Mod.refl _ w).alloc (.cells #[.int .i64 x.fam, .string x.ip, .int .i64 x.port] 64) : New w _)
  have HI := hid (indexA_any a c p x _ (h.new HNX.out))
  obtain ⟨D, hD⟩ : ∃ D, D = hasX x p := ⟨_, rfl⟩
  rw [← hD] at HI ⊢
  unfold adrVM at HI ⊢
  clear h hD
  go_enter Tryz.func97, Tryz.ntmps97
  go_wp2_with fail
  refine HI.out.mono ?_
  rintro e w1 ⟨v, rfl, hv, n1⟩
  have HV := hid hv
  have N1 := hid (HNX.out.trans n1)
  clear hv n1
  go_wp2
  go_ret
  exact ⟨ret_bool HV.out, N1.out⟩
end Go.Proofs.YtbgmkplpolgebaaGreatDoor
