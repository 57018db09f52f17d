/-
  Several texts in one, in their build order. Are all of a list's things right, and are they few (package magnet: all, with text and with addr.Valid). Condition: the list lies as told. Magnets put together, told in plain words: bits of either, each thing once, runs as few as possible. Plain Lean, no program. No condition.
-/
import Derived.Test.YtbgmkplpolgebaaGreatDoorM29
import Derived.Test.YtbgmkplpolgebaaGreatDoorM25
import Derived.Test.YtbgmkplpolgebaaGreatDoorM22
namespace Go.Proofs.YtbgmkplpolgebaaGreatDoor
set_option linter.unusedSimpArgs false
set_option linter.unusedVariables false
open Go.RowKit Go.Shelf

abbrev fnText : Value := .func (.func 32) #[] #[]
abbrev fnAdr : Value := .func (.func 34) #[] #[]
theorem all_upto {α : Type} {p : List α} {f : α → Bool} {k : Nat} (hk : ¬ k < p.length) (h : ∀ (j : Nat) (hj : j < p.length), j < k → f p[j] = true) : p.all f = true := by
  rw [List.all_eq_true]
  intro x hx
  obtain ⟨j, hj, rfl⟩ := List.mem_iff_getElem.1 hx
  exact h j hj (by omega)
theorem all_not {α : Type} {p : List α} {f : α → Bool} {k : Nat} (hk : k < p.length) (h : f p[k] = false) : p.all f = false := by
  rw [List.all_eq_false]
  exact ⟨_, List.getElem_mem hk, by simp [h]⟩
theorem allT1_any (X : Nat) (x : ByteArray) (w : World) (hc : w.cell? ⟨X, 0, none⟩ = some fnText) : Calls Tryz.prog 90 #[.string x, .pointer (some ⟨X, 0, none⟩)] w fun e w' => e = .returned (.bool (!textM x)) ∧ w = w' := by
  have HT := hid (text_any x w)
  go_enter Tryz.func90, Tryz.ntmps90
  go_wp2_with fail
  refine HT.out.mono ?_
  rintro e w1 ⟨rfl, rfl⟩
  go_wp2
  go_ret
  exact ⟨rfl, rfl⟩
theorem allA1_any (X : Nat) (x : AdrV) (w : World) (hs : x.ip.size ≤ maxLen) (hc : w.cell? ⟨X, 0, none⟩ = some fnAdr) : Calls Tryz.prog 92 #[adrV x, .pointer (some ⟨X, 0, none⟩)] w fun e w' => e = .returned (.bool (!adrOk x)) ∧ New w w' := by
  have HT := hid (fun W => adrValid_any x W hs)
  have HN := hid ((Mod.refl _ w).alloc (.cells #[.int .i64 x.fam, .string x.ip, .int .i64 x.port] 64) : New w _)
  have hl := World.block_lt_of_cell? _ _ hc
  go_enter Tryz.func92, Tryz.ntmps92
  go_wp2_with fail
  refine (HT.out _).mono ?_
  rintro e w1 ⟨rfl, n1⟩
  have N1 := hid (HN.out.trans n1)
  clear n1
  go_wp2
  go_ret
  exact ⟨rfl, N1.out⟩
set_option maxHeartbeats 1000000 in
theorem idxT_any (X : Nat) (a : Option Addr) (c : Nat) (p : List ByteArray) (w : World) (h : StrsAt w a c p) (hx : w.cell? ⟨X, 0, none⟩ = some fnText) :
    Calls Tryz.prog 140 #[.slice a p.length c, .func (.func 90) #[] #[.pointer (some ⟨X, 0, none⟩)]] w fun e w' => ∃ v : Int, e = .returned (.int .i64 v) ∧ decide (v ≥ 0) = !(p.all textM) ∧ w = w' := by
  have hm1 := h.room; have hm2 := h.cap
  unfold maxLen at hm2
  by_cases hz : 0 < p.length
  · obtain ⟨b1, o1, rfl, hb1, hc1⟩ := h.get hz
    have HX := hid hx
    clear h hx
    go_enter Tryz.func140, Tryz.ntmps140
    go_wp2
    go_loopw [8] (fun i wr => ∃ k : Nat, i = .int .i64 k ∧ k ≤ p.length ∧ (∀ (j : Nat) (hj : j < p.length), j < k → textM p[j] = true) ∧ wr = w) (fun i _ => p.length - (intOf i).toNat)
    case atStart => exact ⟨0, rfl, by omega, by intros; omega, rfl⟩
    case round =>
      obtain ⟨k, rfl, hk, hb, rfl⟩ := hrel
      have HB := hid hb
      clear hb
      by_cases hlt : k < p.length
      · have g1 := hc1 k hlt
        have HC1 := hid hc1
        clear hc1
        have HP := hid (allT1_any X p[k] wr HX.out)
        cases he : textM p[k] with
        | true =>
          rw [he] at HP
          have HE := hid he
          clear he
          go_wp2_with (go_at_call 90; refine HP.out.mono ?_; rintro e w1 ⟨rfl, rfl⟩)
          exact ⟨⟨k + 1, by simp, by omega, fun j hj h => by rcases Nat.lt_succ_iff_lt_or_eq.1 h with h | h; exact HB.out j hj h; subst h; exact HE.out, trivial⟩, by simp [intOf]; omega⟩
        | false =>
          rw [he] at HP
          have HE := hid (all_not hlt he)
          clear he
          go_wp2_with (go_at_call 90; refine HP.out.mono ?_; rintro e w1 ⟨rfl, rfl⟩)
          go_ret
          exact ⟨k, rfl, by rw [HE.out]; simp, rfl⟩
      · have HE := hid (all_upto hlt (fun j hj h => HB.out j hj h))
        clear hc1
        go_wp2
        go_ret
        exact ⟨-1, rfl, by rw [HE.out]; rfl, rfl⟩
  · obtain rfl : p = [] := List.eq_nil_of_length_eq_zero (by omega)
    clear h
    go_enter Tryz.func140, Tryz.ntmps140
    go_wp2
    refine wp_loop_rounds 1 ?_
    rw [rounds_succ]
    go_wp2
    go_ret
    exact ⟨-1, rfl, rfl, rfl⟩
theorem conT_any (X : Nat) (a : Option Addr) (c : Nat) (p : List ByteArray) (w : World) (h : StrsAt w a c p) (hx : w.cell? ⟨X, 0, none⟩ = some fnText) :
    Calls Tryz.prog 89 #[.slice a p.length c, .func (.func 90) #[] #[.pointer (some ⟨X, 0, none⟩)]] w fun e w' => e = .returned (.bool (!(p.all textM))) ∧ w = w' := by
  have HI := hid (idxT_any X a c p w h hx)
  clear h hx
  go_enter Tryz.func89, Tryz.ntmps89
  go_wp2_with fail
  refine HI.out.mono ?_
  rintro e w1 ⟨v, rfl, hv, rfl⟩
  have HV := hid hv
  clear hv
  go_wp2
  go_ret
  exact ⟨ret_bool HV.out, rfl⟩
theorem allT_any (most : Nat) (a : Option Addr) (c : Nat) (p : List ByteArray) (w : World) (h : StrsAt w a c p) :
    Calls Tryz.prog 31 #[.slice a p.length c, .int .i64 most, fnText] w fun e w' => e = .returned (.bool (decide (p.length ≤ most) && p.all textM)) ∧ New w w' := by
  have hm1 := h.room; have hm2 := h.cap
  unfold maxLen at hm2
  have HN := hid ((Mod.refl _ w).alloc (.cells #[fnText] 33) : New w _)
  have HC := hid (conT_any w.heap.size a c p _ (h.new HN.out) (Blk.cellv (Blk.new w #[fnText] 33) 0 rfl))
  by_cases hl : p.length ≤ most
  · have hI : (p.length : Int) ≤ (most : Int) := by omega
    have HD := hid (decide_eq_true hl)
    clear hl h
    go_enter Tryz.func31, Tryz.ntmps31
    go_wp2_with fail
    refine HC.out.mono ?_
    rintro e w1 ⟨rfl, rfl⟩
    go_wp2
    go_ret
    exact ⟨ret_bool (by rw [HD.out]; simp), HN.out⟩
  · have hI : ¬ (p.length : Int) ≤ (most : Int) := by omega
    have HD := hid (decide_eq_false hl)
    clear hl h
    go_enter Tryz.func31, Tryz.ntmps31
    go_wp2
    go_ret
    exact ⟨ret_bool (by rw [HD.out]; simp), HN.out⟩
set_option maxHeartbeats 1000000 in
theorem idxA_any (X : Nat) (a : Option Addr) (c : Nat) (p : List AdrV) (w : World) (h : AdrsAt w a c p) (hx : w.cell? ⟨X, 0, none⟩ = some fnAdr) :
    Calls Tryz.prog 141 #[.slice a p.length c, .func (.func 92) #[] #[.pointer (some ⟨X, 0, none⟩)]] w fun e w' => ∃ v : Int, e = .returned (.int .i64 v) ∧ decide (v ≥ 0) = !(p.all adrOk) ∧ New w w' := by
  have hm1 := h.room; have hm2 := h.cap
  unfold maxLen at hm2
  by_cases hz : 0 < p.length
  · obtain ⟨b1, o1, rfl, hb1, hc1⟩ := h.get hz
    have HX := hid hx
    have HS := hid h.small
    have HC1 := hid hc1
    clear h hx hc1
    go_enter Tryz.func141, Tryz.ntmps141
    go_wp2
    go_loopw [8] (fun i wr => ∃ k : Nat, i = .int .i64 k ∧ k ≤ p.length ∧ (∀ (j : Nat) (hj : j < p.length), j < k → adrOk p[j] = true) ∧ New w wr) (fun i _ => p.length - (intOf i).toNat)
    case atStart => exact ⟨0, rfl, by omega, by intros; omega, Mod.refl _ _⟩
    case round =>
      obtain ⟨k, rfl, hk, hb, hn⟩ := hrel
      have HB := hid hb
      have HN := hid hn
      clear hb
      by_cases hlt : k < p.length
      · obtain ⟨g0, g1, g2⟩ := HC1.out k hlt
        have g0 := hn.cellv g0; have g1 := hn.cellv g1; have g2 := hn.cellv g2
        have hx := hn.cellv HX.out
        have HNO := hid (fun he => all_not (f := adrOk) hlt he)
        have HYE := hid (fun (he : adrOk p[k] = true) (j : Nat) (hj : j < p.length) (h : j < k + 1) => show adrOk p[j] = true by rcases Nat.lt_succ_iff_lt_or_eq.1 h with h | h; exact HB.out j hj h; subst h; exact he)
        have HP := hid (allA1_any X p[k] wr (HS.out _ (List.getElem_mem hlt)) hx)
        obtain ⟨x, hxx⟩ : ∃ x, x = p[k] := ⟨_, rfl⟩
        rw [← hxx] at g0 g1 g2 HNO HYE HP
        clear hxx hx hn
        cases he : adrOk x with
        | true =>
          rw [he] at HP
          have HE := hid (HYE.out he)
          clear he
          go_wp2_with (go_at_call 92; refine HP.out.mono ?_; rintro e w1 ⟨rfl, n1⟩; have N1 := hid n1; clear n1)
          exact ⟨⟨k + 1, by simp, by omega, HE.out, HN.out.trans N1.out⟩, by simp [intOf]; omega⟩
        | false =>
          rw [he] at HP
          have HE := hid (HNO.out he)
          clear he
          go_wp2_with (go_at_call 92; refine HP.out.mono ?_; rintro e w1 ⟨rfl, n1⟩; have N1 := hid n1; clear n1)
          go_ret
          exact ⟨k, rfl, by rw [HE.out]; simp, HN.out.trans N1.out⟩
      · have HE := hid (all_upto hlt (fun j hj h => HB.out j hj h))
        clear hn
        go_wp2
        go_ret
        exact ⟨-1, rfl, by rw [HE.out]; rfl, HN.out⟩
  · obtain rfl : p = [] := List.eq_nil_of_length_eq_zero (by omega)
    clear h
    go_enter Tryz.func141, Tryz.ntmps141
    go_wp2
    refine wp_loop_rounds 1 ?_
    rw [rounds_succ]
    go_wp2
    go_ret
    exact ⟨-1, rfl, rfl, Mod.refl _ _⟩
theorem conA_any (X : Nat) (a : Option Addr) (c : Nat) (p : List AdrV) (w : World) (h : AdrsAt w a c p) (hx : w.cell? ⟨X, 0, none⟩ = some fnAdr) :
    Calls Tryz.prog 91 #[.slice a p.length c, .func (.func 92) #[] #[.pointer (some ⟨X, 0, none⟩)]] w fun e w' => e = .returned (.bool (!(p.all adrOk))) ∧ New w w' := by
  have HI := hid (idxA_any X a c p w h hx)
  clear h hx
  go_enter Tryz.func91, Tryz.ntmps91
  go_wp2_with fail
  refine HI.out.mono ?_
  rintro e w1 ⟨v, rfl, hv, n1⟩
  have HV := hid hv
  have N1 := hid n1
  clear hv n1
  go_wp2
  go_ret
  exact ⟨ret_bool HV.out, N1.out⟩
theorem allA_any (most : Nat) (a : Option Addr) (c : Nat) (p : List AdrV) (w : World) (h : AdrsAt w a c p) :
    Calls Tryz.prog 33 #[.slice a p.length c, .int .i64 most, fnAdr] w fun e w' => e = .returned (.bool (decide (p.length ≤ most) && p.all adrOk)) ∧ New w w' := by
  have hm1 := h.room; have hm2 := h.cap
  unfold maxLen at hm2
  have HN := hid ((Mod.refl _ w).alloc (.cells #[fnAdr] 69) : New w _)
  have HC := hid (conA_any w.heap.size a c p _ (h.new HN.out) (Blk.cellv (Blk.new w #[fnAdr] 69) 0 rfl))
  by_cases hl : p.length ≤ most
  · have hI : (p.length : Int) ≤ (most : Int) := by omega
    have HD := hid (decide_eq_true hl)
    clear hl h
    go_enter Tryz.func33, Tryz.ntmps33
    go_wp2_with fail
    refine HC.out.mono ?_
    rintro e w1 ⟨rfl, n1⟩
    have N1 := hid (HN.out.trans n1)
    clear n1
    go_wp2
    go_ret
    exact ⟨ret_bool (by rw [HD.out]; simp), N1.out⟩
  · have hI : ¬ (p.length : Int) ≤ (most : Int) := by omega
    have HD := hid (decide_eq_false hl)
    clear hl h
    go_enter Tryz.func33, Tryz.ntmps33
    go_wp2
    go_ret
    exact ⟨ret_bool (by rw [HD.out]; simp), HN.out⟩
end Go.Proofs.YtbgmkplpolgebaaGreatDoor

namespace Go.Proofs.YtbgmkplpolgebaaGreatDoor
set_option linter.unusedSimpArgs false
set_option linter.unusedVariables false

/-! ### bits of either -/
def orL (A B : List UInt8) : List UInt8 := List.zipWith (· ||| ·) A B
theorem orL_len {A B : List UInt8} (h : A.length = B.length) : (orL A B).length = A.length := by unfold orL; rw [List.length_zipWith, h, Nat.min_self]
theorem bitB_test (b : UInt8) (j : Nat) : bitB b j = b.toNat.testBit (7 - j) := by unfold bitB; rw [Nat.testBit_eq_decide_div_mod_eq]
theorem bitB_or (a b : UInt8) (j : Nat) : bitB (a ||| b) j = (bitB a j || bitB b j) := by rw [bitB_test, bitB_test, bitB_test, UInt8.toNat_or, Nat.testBit_or]
theorem orL_get {A B : List UInt8} (h : A.length = B.length) {k : Nat} (hk : k < A.length) : (orL A B)[k]'(by rw [orL_len h]; exact hk) = A[k] ||| B[k]'(by omega) := by
  unfold orL
  rw [List.getElem_zipWith]
theorem bitL_get {S : List UInt8} {i : Nat} (h : i / 8 < S.length) : bitL S i = bitB S[i / 8] (i % 8) := by
  unfold bitL
  rw [List.getD_eq_getElem?_getD, List.getElem?_eq_getElem h]
  rfl
theorem orL_bit {A B : List UInt8} (h : A.length = B.length) (i : Nat) : bitL (orL A B) i = (bitL A i || bitL B i) := by
  by_cases hi : i / 8 < A.length
  · rw [bitL_get (by rw [orL_len h]; exact hi), bitL_get hi, bitL_get (S := B) (by omega), orL_get h hi, bitB_or]
  · rw [bitL_out (by rw [orL_len h]; omega), bitL_out (s := A) (by omega), bitL_out (s := B) (by omega)]
    rfl
theorem FieldOf.or {n : Nat} {A B : List UInt8} (h : FieldOf n A) (k : FieldOf n B) : FieldOf n (orL A B) := by
  have hl := h.len.trans k.len.symm
  refine ⟨by rw [orL_len hl]; exact h.len, fun i hi => ?_⟩
  rw [orL_bit hl, h.rest i hi, k.rest i hi]
  rfl
/-! ### each thing once -/
section
variable {α : Type} [DecidableEq α]
def onceP (o : List α) (x : α) : List α := if x ∈ o then o else o ++ [x]
def onceL (l : List α) : List α := l.foldl onceP []
theorem mem_onceP {o : List α} {x y : α} : y ∈ onceP o x ↔ y ∈ o ∨ y = x := by
  unfold onceP
  split
  · next h => exact ⟨.inl, fun q => q.elim id (fun e => e ▸ h)⟩
  · simp
theorem mem_fold {y : α} : ∀ (l o : List α), y ∈ l.foldl onceP o ↔ y ∈ o ∨ y ∈ l
  | [], o => by simp
  | x :: r, o => by
    rw [List.foldl_cons, mem_fold r, mem_onceP, List.mem_cons]
    exact ⟨fun q => q.elim (fun q => q.elim .inl (fun e => .inr (.inl e))) (fun q => .inr (.inr q)), fun q => q.elim (fun q => .inl (.inl q)) (fun q => q.elim (fun e => .inl (.inr e)) .inr)⟩
theorem mem_onceL {l : List α} {y : α} : y ∈ onceL l ↔ y ∈ l := by
  unfold onceL
  rw [mem_fold]
  simp
theorem fold_len : ∀ (l o : List α), (l.foldl onceP o).length ≤ o.length + l.length
  | [], o => by simp
  | x :: r, o => by
    rw [List.foldl_cons]
    have h1 := fold_len r (onceP o x)
    have h2 : (onceP o x).length ≤ o.length + 1 := by unfold onceP; split <;> simp
    rw [List.length_cons]
    omega
theorem onceL_len (l : List α) : (onceL l).length ≤ l.length := by have := fold_len l []; show (l.foldl onceP []).length ≤ l.length; simpa using this
end
/-! ### runs of a field that was made of runs -/
def upTo (a c : Nat) : List Nat := (List.range c).map (a + ·)
theorem upTo_succ (a c : Nat) : upTo a (c + 1) = upTo a c ++ [a + c] := by unfold upTo; rw [List.range_succ, List.map_append]; rfl
theorem put_more (R : List (Int × Int)) (r : Int × Int) (a : Nat) (h : r.1 + r.2 = (a : Int)) : ∀ c, (upTo a c).foldl runPut (R ++ [r]) = R ++ [(r.1, r.2 + c)]
  | 0 => by simp [upTo]
  | c + 1 => by
    rw [upTo_succ, List.foldl_append, put_more R r a h c]
    show runPut (R ++ [(r.1, r.2 + (c : Int))]) (a + c) = _
    rw [runPut_on R (r.1, r.2 + (c : Int)) (a + c) (by show r.1 + (r.2 + (c : Int)) = ((a + c : Nat) : Int); push_cast; omega)]
    congr 2
    congr 1
    push_cast
    omega
theorem put_first (R : List (Int × Int)) (a : Nat) (h : ∀ A r, R = A ++ [r] → r.1 + r.2 ≠ (a : Int)) : runPut R a = R ++ [((a : Int), 1)] := by
  rcases snoc_form R with rfl | ⟨A, r, rfl⟩
  · rfl
  · exact runPut_new A r a (h A r rfl)
theorem put_new (R : List (Int × Int)) (a c : Nat) (hc : 1 ≤ c) (h : ∀ A r, R = A ++ [r] → r.1 + r.2 ≠ (a : Int)) : (upTo a c).foldl runPut R = R ++ [((a : Int), (c : Int))] := by
  obtain ⟨d, rfl⟩ : ∃ d, c = d + 1 := ⟨c - 1, by omega⟩
  have e : upTo a (d + 1) = [a] ++ upTo (a + 1) d := by
    unfold upTo
    rw [show d + 1 = 1 + d by omega, List.range_add, List.map_append, List.map_map]
    congr 1
    apply List.map_congr_left
    intro x _
    show a + (1 + x) = a + 1 + x
    omega
  rw [e, List.foldl_append]
  show (upTo (a + 1) d).foldl runPut (runPut R a) = _
  rw [put_first R a h, put_more R ((a : Int), 1) (a + 1) (by push_cast; omega) d]
  congr 2
  congr 1
  push_cast
  omega
theorem nums_fill {n : Nat} {S : List UInt8} (h : FieldOf n S) (E a c : Nat) (hE : ∀ i, E ≤ i → bitL S i = false) (ha : E ≤ a) (hc : a + c ≤ n) : numsL n (fillL S a c) = numsL n S ++ upTo a c := by
  obtain ⟨d, rfl⟩ : ∃ d, n = a + c + d := ⟨n - (a + c), by omega⟩
  have hb := fill_bit h a c hc
  have e3 : List.range (a + c + d) = List.range a ++ upTo a c ++ (List.range d).map (a + c + ·) := by rw [List.range_add, List.range_add]; rfl
  have g1 : ∀ T : List UInt8, numsL (a + c + d) T = (List.range a).filter (fun i => bitL T i) ++ (upTo a c).filter (fun i => bitL T i) ++ ((List.range d).map (a + c + ·)).filter (fun i => bitL T i) := fun T => by
    show (List.range (a + c + d)).filter (fun i => bitL T i) = _
    rw [e3, List.filter_append, List.filter_append]
  have z2 : (upTo a c).filter (fun i => bitL S i) = [] := by
    rw [List.filter_eq_nil_iff]
    intro i hi
    unfold upTo at hi
    obtain ⟨x, hx, rfl⟩ := List.mem_map.1 hi
    rw [hE _ (by omega)]
    decide
  have z3 : ((List.range d).map (a + c + ·)).filter (fun i => bitL S i) = [] := by
    rw [List.filter_eq_nil_iff]
    intro i hi
    obtain ⟨x, hx, rfl⟩ := List.mem_map.1 hi
    rw [hE _ (by omega)]
    decide
  have f1 : (List.range a).filter (fun i => bitL (fillL S a c) i) = (List.range a).filter (fun i => bitL S i) := by
    apply List.filter_congr
    intro i hi
    rw [List.mem_range] at hi
    rw [hb i, show decide (a ≤ i) = false from decide_eq_false (by omega), Bool.false_and, Bool.or_false]
  have f2 : (upTo a c).filter (fun i => bitL (fillL S a c) i) = upTo a c := by
    rw [List.filter_eq_self]
    intro i hi
    unfold upTo at hi
    obtain ⟨x, hx, rfl⟩ := List.mem_map.1 hi
    rw [List.mem_range] at hx
    rw [hb, show decide (a ≤ a + x) = true from decide_eq_true (by omega), show decide (a + x < a + c) = true from decide_eq_true (by omega)]
    simp
  have f3 : ((List.range d).map (a + c + ·)).filter (fun i => bitL (fillL S a c) i) = [] := by
    rw [List.filter_eq_nil_iff]
    intro i hi
    obtain ⟨x, hx, rfl⟩ := List.mem_map.1 hi
    rw [hb, hE _ (by omega), show decide (a + c + x < a + c) = false from decide_eq_false (by omega)]
    simp
  rw [g1, g1, f1, f2, f3, z2, z3, List.append_nil, List.append_nil, List.append_nil]
theorem runBad_no {n : Nat} {r : Int × Int} (h : ¬ runBad n r = true) : 1 ≤ r.2 ∧ 0 ≤ r.1 ∧ r.1 + r.2 ≤ n := by
  unfold runBad at h
  simp only [Bool.or_eq_true, decide_eq_true_eq, not_or] at h
  omega
/-- What the runs of the field are, behind so many runs. -/
theorem merge_all {n : Nat} : ∀ (k : Nat) (A : List (Int × Int)), A.length = k → ∀ E S, frS n A (0, zerosL n) = .ok (E, S) → FieldOf n S ∧ 0 ≤ E ∧ E ≤ n ∧ (∀ i : Nat, E ≤ (i : Int) → bitL S i = false) ∧ (runsF n S).length ≤ A.length ∧ ((runsF n S).length = A.length → runsF n S = A)
  | 0, A, hk, E, S, h => by
    obtain rfl : A = [] := List.eq_nil_of_length_eq_zero hk
    injection h with h
    injection h with h1 h2
    subst h1 h2
    refine ⟨FieldOf.zero n, by omega, by omega, fun i _ => by unfold zerosL; exact bitL_zero _ _, ?_, ?_⟩
    · rw [runsF_zero]; simp
    · intro _; rw [runsF_zero]
  | k + 1, A, hk, E, S, h => by
    rcases snoc_form A with rfl | ⟨B, r, rfl⟩
    · simp at hk
    · rw [List.length_append, List.length_singleton] at hk
      rw [frS_app] at h
      cases hB : frS n B (0, zerosL n) with
      | error e => rw [hB] at h; cases h
      | ok st =>
        obtain ⟨E0, S0⟩ := st
        rw [hB] at h
        obtain ⟨i1, i2, i3, i4, i5, i6⟩ := merge_all k B (by omega) E0 S0 hB
        simp only [frS, frStep] at h
        by_cases hb : runBad n r = true
        · rw [if_pos hb] at h; cases h
        · rw [if_neg hb] at h
          by_cases hlt : r.1 < E0
          · rw [if_pos hlt] at h; cases h
          · rw [if_neg hlt] at h
            injection h with h
            injection h with h1 h2
            obtain ⟨b1, b2, b3⟩ := runBad_no hb
            obtain ⟨a, ha⟩ := Int.eq_ofNat_of_zero_le b2
            obtain ⟨c, hc⟩ := Int.eq_ofNat_of_zero_le (show 0 ≤ r.2 by omega)
            rw [ha, hc, Int.toNat_natCast, Int.toNat_natCast] at h2
            have hac : a + c ≤ n := by omega
            have hbit := fill_bit i1 a c hac
            obtain ⟨E1, hE1⟩ := Int.eq_ofNat_of_zero_le i2
            have hfl := fill_field i1 a c hac
            rw [h2] at hbit hfl
            have hnf := nums_fill i1 E1 a c (fun i hi => i4 i (by omega)) (by omega) hac
            rw [h2] at hnf
            refine ⟨hfl, by omega, by omega, fun i hi => ?_, ?_⟩
            · rw [hbit i, i4 i (by omega), show decide (i < a + c) = false from decide_eq_false (by omega)]
              simp
            · have hR : runsF n S = (upTo a c).foldl runPut (runsF n S0) := by
                unfold runsF
                rw [hnf]
                unfold runsN
                rw [List.foldl_append]
              have hrr : r = ((a : Int), (c : Int)) := Prod.ext ha hc
              rw [List.length_append, List.length_singleton]
              rcases Classical.em (∃ M q, runsF n S0 = M ++ [q] ∧ q.1 + q.2 = (a : Int)) with ⟨M, q, hq1, hq2⟩ | hno
              · rw [hR, hq1, put_more M q a hq2 c]
                have : (runsF n S0).length = M.length + 1 := by rw [hq1]; simp
                refine ⟨by simp; omega, fun e => ?_⟩
                simp at e
                omega
              · rw [hR, put_new _ a c (by omega) (fun M q e1 e2 => hno ⟨M, q, e1, e2⟩)]
                refine ⟨by simp; omega, fun e => ?_⟩
                have := i6 (by simp at e; omega)
                rw [this, hrr]
/-- Runs are as few as possible. -/
def onB (l : List (Int × Int)) : Bool := match frR 40 l with
  | .ok S => decide (runsF 40 S = l)
  | .error _ => false
theorem onB_len {l : List (Int × Int)} {S : List UInt8} (h : frR 40 l = .ok S) : decide ((runsF 40 S).length = l.length) = onB l := by
  unfold onB
  rw [h]
  show _ = decide (runsF 40 S = l)
  rw [decide_eq_decide]
  refine ⟨fun e => ?_, fun e => by rw [e]⟩
  unfold frR at h
  cases hs : frS 40 l (0, zerosL 40) with
  | error k => rw [hs] at h; cases h
  | ok st =>
    obtain ⟨E, S'⟩ := st
    rw [hs] at h
    injection h with h
    subst h
    exact (merge_all l.length l rfl E S' hs).2.2.2.2.2 e
theorem onB_field {l : List (Int × Int)} (h : onB l = true) : ∃ S, FieldOf 40 S ∧ frR 40 l = .ok S ∧ l = runsF 40 S := by
  unfold onB at h
  cases hf : frR 40 l with
  | error k => rw [hf] at h; cases h
  | ok S =>
    rw [hf] at h
    exact ⟨S, frR_field hf, rfl, (of_decide_eq_true h).symm⟩
/-! ### what is right, and what two magnets make -/
def lenOr (n : Nat) (s : ByteArray) : Bool := decide (s.size = 0) || decide (s.size = n)
def validMg (m : MgV) : Bool := lenOr 20 m.old && (lenOr 32 m.new && (!(decide (m.old.size = 0) && decide (m.new.size = 0)) && (decide (m.name.size ≤ 100) && ((decide (m.tr.length ≤ 10) && m.tr.all textM) && ((decide (m.ws.length ≤ 10) && m.ws.all textM) && ((decide (m.pe.length ≤ 20) && m.pe.all adrOk) && onB m.on))))))
structure VOk (m : MgV) : Prop where
  old : m.old.size = 0 ∨ m.old.size = 20
  new : m.new.size = 0 ∨ m.new.size = 32
  one : ¬ (m.old.size = 0 ∧ m.new.size = 0)
  name : m.name.size ≤ 100
  trl : m.tr.length ≤ 10
  tr : m.tr.all textM = true
  wsl : m.ws.length ≤ 10
  ws : m.ws.all textM = true
  pel : m.pe.length ≤ 20
  pe : m.pe.all adrOk = true
  on : onB m.on = true
theorem lenOr_iff {n : Nat} {s : ByteArray} : lenOr n s = true ↔ s.size = 0 ∨ s.size = n := by
  unfold lenOr
  rw [Bool.or_eq_true, decide_eq_true_iff, decide_eq_true_iff]
theorem validMg_iff {m : MgV} : validMg m = true ↔ VOk m := by
  unfold validMg
  simp only [Bool.and_eq_true, lenOr_iff, Bool.not_eq_true', Bool.and_eq_false_iff, decide_eq_true_eq, decide_eq_false_iff_not]
  constructor
  · rintro ⟨h1, h2, h3, h4, ⟨h5, h6⟩, ⟨h7, h8⟩, ⟨h9, h10⟩, h11⟩
    exact ⟨h1, h2, fun q => h3.elim (fun e => e q.1) (fun e => e q.2), h4, h5, h6, h7, h8, h9, h10, h11⟩
  · intro h
    refine ⟨h.old, h.new, ?_, h.name, ⟨h.trl, h.tr⟩, ⟨h.wsl, h.ws⟩, ⟨h.pel, h.pe⟩, h.on⟩
    by_cases e : m.old.size = 0
    · exact .inr (fun q => h.one ⟨e, q⟩)
    · exact .inl e
theorem VOk.once {m : MgV} (h : VOk m) : VOk { m with tr := onceL m.tr, pe := onceL m.pe, ws := onceL m.ws, named := false, only := false } := by
  have l1 := onceL_len m.tr; have l2 := onceL_len m.ws; have l3 := onceL_len m.pe
  have al : ∀ {α : Type} [DecidableEq α] {f : α → Bool} {l : List α}, l.all f = true → (onceL l).all f = true := fun {α} _ {f} {l} q => by
    rw [List.all_eq_true] at q ⊢
    exact fun x hx => q x (mem_onceL.1 hx)
  exact ⟨h.old, h.new, h.one, h.name, Nat.le_trans l1 h.trl, al h.tr, Nat.le_trans l2 h.wsl, al h.ws, Nat.le_trans l3 h.pel, al h.pe, h.on⟩
end Go.Proofs.YtbgmkplpolgebaaGreatDoor
