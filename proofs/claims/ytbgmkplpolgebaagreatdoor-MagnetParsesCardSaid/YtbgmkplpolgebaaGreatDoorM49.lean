/-
  Several texts in one, in their build order. Are all of a list's things right, and are they few (package magnet: all, with text and with addr.Valid). Condition: the list lies as told. The walk of Valid (package magnet) on a magnet that is right. Conditions: the magnet lies as told, and is right.
-/
import Derived.Test.YtbgmkplpolgebaaGreatDoorM48
import Derived.Test.YtbgmkplpolgebaaGreatDoorM32
import Derived.Test.YtbgmkplpolgebaaGreatDoorM44
import Derived.Test.YtbgmkplpolgebaaGreatDoorM22
import Derived.Test.YtbgmkplpolgebaaGreatDoorM20
namespace Go.Proofs.YtbgmkplpolgebaaGreatDoor
set_option linter.unusedSimpArgs false
set_option linter.unusedVariables false
open Go.RowKit Go.Shelf

abbrev fnText : Value := .func (.func 32) #[] #[]
abbrev fnAdr : Value := .func (.func 34) #[] #[]
theorem all_upto {α : Type} {p : List α} {f : α → Bool} {k : Nat} (hk : ¬ k < p.length) (h : ∀ (j : Nat) (hj : j < p.length), j < k → f p[j] = true) : p.all f = true := by
  rw [List.all_eq_true]
  intro x hx
  obtain ⟨j, hj, rfl⟩ := List.mem_iff_getElem.1 hx
  exact h j hj (by omega)
theorem all_not {α : Type} {p : List α} {f : α → Bool} {k : Nat} (hk : k < p.length) (h : f p[k] = false) : p.all f = false := by
  rw [List.all_eq_false]
  exact ⟨_, List.getElem_mem hk, by simp [h]⟩
theorem allT1_any (X : Nat) (x : ByteArray) (w : World) (hc : w.cell? ⟨X, 0, none⟩ = some fnText) : Calls Tryz.prog 90 #[.string x, .pointer (some ⟨X, 0, none⟩)] w fun e w' => e = .returned (.bool (!textM x)) ∧ w = w' := by
  have HT := hid (text_any x w)
  go_enter Tryz.func90, Tryz.ntmps90
  go_wp2_with fail
  refine HT.out.mono ?_
  rintro e w1 ⟨rfl, rfl⟩
  go_wp2
  go_ret
  exact ⟨rfl, rfl⟩
theorem allA1_any (X : Nat) (x : AdrV) (w : World) (hs : x.ip.size ≤ maxLen) (hc : w.cell? ⟨X, 0, none⟩ = some fnAdr) : Calls Tryz.prog 92 #[adrV x, .pointer (some ⟨X, 0, none⟩)] w fun e w' => e = .returned (.bool (!adrOk x)) ∧ New w w' := by
  have HT := hid (fun W => adrValid_any x W hs)
  have HN := hid ((Mod.refl _ w).alloc (.cells #[.int .i64 x.fam, .string x.ip, .int .i64 x.port] 64) : New w _)
  have hl := World.block_lt_of_cell? _ _ hc
  go_enter Tryz.func92, Tryz.ntmps92
  go_wp2_with fail
  refine (HT.out _).mono ?_
  rintro e w1 ⟨rfl, n1⟩
  have N1 := hid (HN.out.trans n1)
  clear n1
  go_wp2
  go_ret
  exact ⟨rfl, N1.out⟩
set_option maxHeartbeats 1000000 in
theorem idxT_any (X : Nat) (a : Option Addr) (c : Nat) (p : List ByteArray) (w : World) (h : StrsAt w a c p) (hx : w.cell? ⟨X, 0, none⟩ = some fnText) :
    Calls Tryz.prog 140 #[.slice a p.length c, .func (.func 90) #[] #[.pointer (some ⟨X, 0, none⟩)]] w fun e w' => ∃ v : Int, e = .returned (.int .i64 v) ∧ decide (v ≥ 0) = !(p.all textM) ∧ w = w' := by
  have hm1 := h.room; have hm2 := h.cap
  unfold maxLen at hm2
  by_cases hz : 0 < p.length
  · obtain ⟨b1, o1, rfl, hb1, hc1⟩ := h.get hz
    have HX := hid hx
    clear h hx
    go_enter Tryz.func140, Tryz.ntmps140
    go_wp2
    go_loopw [8] (fun i wr => ∃ k : Nat, i = .int .i64 k ∧ k ≤ p.length ∧ (∀ (j : Nat) (hj : j < p.length), j < k → textM p[j] = true) ∧ wr = w) (fun i _ => p.length - (intOf i).toNat)
    case atStart => exact ⟨0, rfl, by omega, by intros; omega, rfl⟩
    case round =>
      obtain ⟨k, rfl, hk, hb, rfl⟩ := hrel
      have HB := hid hb
      clear hb
      by_cases hlt : k < p.length
      · have g1 := hc1 k hlt
        have HC1 := hid hc1
        clear hc1
        have HP := hid (allT1_any X p[k] wr HX.out)
        cases he : textM p[k] with
        | true =>
          rw [he] at HP
          have HE := hid he
          clear he
          go_wp2_with (go_at_call 90; refine HP.out.mono ?_; rintro e w1 ⟨rfl, rfl⟩)
          exact ⟨⟨k + 1, by simp, by omega, fun j hj h => by rcases Nat.lt_succ_iff_lt_or_eq.1 h with h | h; exact HB.out j hj h; subst h; exact HE.out, trivial⟩, by simp [intOf]; omega⟩
        | false =>
          rw [he] at HP
          have HE := hid (all_not hlt he)
          clear he
          go_wp2_with (go_at_call 90; refine HP.out.mono ?_; rintro e w1 ⟨rfl, rfl⟩)
          go_ret
          exact ⟨k, rfl, by rw [HE.out]; simp, rfl⟩
      · have HE := hid (all_upto hlt (fun j hj h => HB.out j hj h))
        clear hc1
        go_wp2
        go_ret
        exact ⟨-1, rfl, by rw [HE.out]; rfl, rfl⟩
  · obtain rfl : p = [] := List.eq_nil_of_length_eq_zero (by omega)
    clear h
    go_enter Tryz.func140, Tryz.ntmps140
    go_wp2
    refine wp_loop_rounds 1 ?_
    rw [rounds_succ]
    go_wp2
    go_ret
    exact ⟨-1, rfl, rfl, rfl⟩
theorem conT_any (X : Nat) (a : Option Addr) (c : Nat) (p : List ByteArray) (w : World) (h : StrsAt w a c p) (hx : w.cell? ⟨X, 0, none⟩ = some fnText) :
    Calls Tryz.prog 89 #[.slice a p.length c, .func (.func 90) #[] #[.pointer (some ⟨X, 0, none⟩)]] w fun e w' => e = .returned (.bool (!(p.all textM))) ∧ w = w' := by
  have HI := hid (idxT_any X a c p w h hx)
  clear h hx
  go_enter Tryz.func89, Tryz.ntmps89
  go_wp2_with fail
  refine HI.out.mono ?_
  rintro e w1 ⟨v, rfl, hv, rfl⟩
  have HV := hid hv
  clear hv
  go_wp2
  go_ret
  exact ⟨ret_bool HV.out, rfl⟩
theorem allT_any (most : Nat) (a : Option Addr) (c : Nat) (p : List ByteArray) (w : World) (h : StrsAt w a c p) :
    Calls Tryz.prog 31 #[.slice a p.length c, .int .i64 most, fnText] w fun e w' => e = .returned (.bool (decide (p.length ≤ most) && p.all textM)) ∧ New w w' := by
  have hm1 := h.room; have hm2 := h.cap
  unfold maxLen at hm2
  have HN := hid ((Mod.refl _ w).alloc (.cells #[fnText] 33) : New w _)
  have HC := hid (conT_any w.heap.size a c p _ (h.new HN.out) (Blk.cellv (Blk.new w #[fnText] 33) 0 rfl))
  by_cases hl : p.length ≤ most
  · have hI : (p.length : Int) ≤ (most : Int) := by omega
    have HD := hid (decide_eq_true hl)
    clear hl h
    go_enter Tryz.func31, Tryz.ntmps31
    go_wp2_with fail
    refine HC.out.mono ?_
    rintro e w1 ⟨rfl, rfl⟩
    go_wp2
    go_ret
    exact ⟨ret_bool (by rw [HD.out]; simp), HN.out⟩
  · have hI : ¬ (p.length : Int) ≤ (most : Int) := by omega
    have HD := hid (decide_eq_false hl)
    clear hl h
    go_enter Tryz.func31, Tryz.ntmps31
    go_wp2
    go_ret
    exact ⟨ret_bool (by rw [HD.out]; simp), HN.out⟩
set_option maxHeartbeats 1000000 in
theorem idxA_any (X : Nat) (a : Option Addr) (c : Nat) (p : List AdrV) (w : World) (h : AdrsAt w a c p) (hx : w.cell? ⟨X, 0, none⟩ = some fnAdr) :
    Calls Tryz.prog 141 #[.slice a p.length c, .func (.func 92) #[] #[.pointer (some ⟨X, 0, none⟩)]] w fun e w' => ∃ v : Int, e = .returned (.int .i64 v) ∧ decide (v ≥ 0) = !(p.all adrOk) ∧ New w w' := by
  have hm1 := h.room; have hm2 := h.cap
  unfold maxLen at hm2
  by_cases hz : 0 < p.length
  · obtain ⟨b1, o1, rfl, hb1, hc1⟩ := h.get hz
    have HX := hid hx
    have HS := hid h.small
    have HC1 := hid hc1
    clear h hx hc1
    go_enter Tryz.func141, Tryz.ntmps141
    go_wp2
    go_loopw [8] (fun i wr => ∃ k : Nat, i = .int .i64 k ∧ k ≤ p.length ∧ (∀ (j : Nat) (hj : j < p.length), j < k → adrOk p[j] = true) ∧ New w wr) (fun i _ => p.length - (intOf i).toNat)
    case atStart => exact ⟨0, rfl, by omega, by intros; omega, Mod.refl _ _⟩
    case round =>
      obtain ⟨k, rfl, hk, hb, hn⟩ := hrel
      have HB := hid hb
      have HN := hid hn
      clear hb
      by_cases hlt : k < p.length
      · obtain ⟨g0, g1, g2⟩ := HC1.out k hlt
        have g0 := hn.cellv g0; have g1 := hn.cellv g1; have g2 := hn.cellv g2
        have hx := hn.cellv HX.out
        have HNO := hid (fun he => all_not (f := adrOk) hlt he)
        have HYE := hid (fun (he : adrOk p[k] = true) (j : Nat) (hj : j < p.length) (h : j < k + 1) => show adrOk p[j] = true by rcases Nat.lt_succ_iff_lt_or_eq.1 h with h | h; exact HB.out j hj h; subst h; exact he)
        have HP := hid (allA1_any X p[k] wr (HS.out _ (List.getElem_mem hlt)) hx)
        obtain ⟨x, hxx⟩ : ∃ x, x = p[k] := ⟨_, rfl⟩
        rw [← hxx] at g0 g1 g2 HNO HYE HP
        clear hxx hx hn
        cases he : adrOk x with
        | true =>
          rw [he] at HP
          have HE := hid (HYE.out he)
          clear he
          go_wp2_with (go_at_call 92; refine HP.out.mono ?_; rintro e w1 ⟨rfl, n1⟩; have N1 := hid n1; clear n1)
          exact ⟨⟨k + 1, by simp, by omega, HE.out, HN.out.trans N1.out⟩, by simp [intOf]; omega⟩
        | false =>
          rw [he] at HP
          have HE := hid (HNO.out he)
          clear he
          go_wp2_with (go_at_call 92; refine HP.out.mono ?_; rintro e w1 ⟨rfl, n1⟩; have N1 := hid n1; clear n1)
          go_ret
          exact ⟨k, rfl, by rw [HE.out]; simp, HN.out.trans N1.out⟩
      · have HE := hid (all_upto hlt (fun j hj h => HB.out j hj h))
        clear hn
        go_wp2
        go_ret
        exact ⟨-1, rfl, by rw [HE.out]; rfl, HN.out⟩
  · obtain rfl : p = [] := List.eq_nil_of_length_eq_zero (by omega)
    clear h
    go_enter Tryz.func141, Tryz.ntmps141
    go_wp2
    refine wp_loop_rounds 1 ?_
    rw [rounds_succ]
    go_wp2
    go_ret
    exact ⟨-1, rfl, rfl, Mod.refl _ _⟩
theorem conA_any (X : Nat) (a : Option Addr) (c : Nat) (p : List AdrV) (w : World) (h : AdrsAt w a c p) (hx : w.cell? ⟨X, 0, none⟩ = some fnAdr) :
    Calls Tryz.prog 91 #[.slice a p.length c, .func (.func 92) #[] #[.pointer (some ⟨X, 0, none⟩)]] w fun e w' => e = .returned (.bool (!(p.all adrOk))) ∧ New w w' := by
  have HI := hid (idxA_any X a c p w h hx)
  clear h hx
  go_enter Tryz.func91, Tryz.ntmps91
  go_wp2_with fail
  refine HI.out.mono ?_
  rintro e w1 ⟨v, rfl, hv, n1⟩
  have HV := hid hv
  have N1 := hid n1
  clear hv n1
  go_wp2
  go_ret
  exact ⟨ret_bool HV.out, N1.out⟩
theorem allA_any (most : Nat) (a : Option Addr) (c : Nat) (p : List AdrV) (w : World) (h : AdrsAt w a c p) :
    Calls Tryz.prog 33 #[.slice a p.length c, .int .i64 most, fnAdr] w fun e w' => e = .returned (.bool (decide (p.length ≤ most) && p.all adrOk)) ∧ New w w' := by
  have hm1 := h.room; have hm2 := h.cap
  unfold maxLen at hm2
  have HN := hid ((Mod.refl _ w).alloc (.cells #[fnAdr] 69) : New w _)
  have HC := hid (conA_any w.heap.size a c p _ (h.new HN.out) (Blk.cellv (Blk.new w #[fnAdr] 69) 0 rfl))
  by_cases hl : p.length ≤ most
  · have hI : (p.length : Int) ≤ (most : Int) := by omega
    have HD := hid (decide_eq_true hl)
    clear hl h
    go_enter Tryz.func33, Tryz.ntmps33
    go_wp2_with fail
    refine HC.out.mono ?_
    rintro e w1 ⟨rfl, n1⟩
    have N1 := hid (HN.out.trans n1)
    clear n1
    go_wp2
    go_ret
    exact ⟨ret_bool (by rw [HD.out]; simp), N1.out⟩
  · have hI : ¬ (p.length : Int) ≤ (most : Int) := by omega
    have HD := hid (decide_eq_false hl)
    clear hl h
    go_enter Tryz.func33, Tryz.ntmps33
    go_wp2
    go_ret
    exact ⟨ret_bool (by rw [HD.out]; simp), HN.out⟩
end Go.Proofs.YtbgmkplpolgebaaGreatDoor

namespace Go.Proofs.YtbgmkplpolgebaaGreatDoor
set_option linter.unusedSimpArgs false
set_option linter.unusedVariables false
open Go.RowKit Go.Shelf

set_option maxHeartbeats 1000000 in
theorem mruns_yes (f : List UInt8) (a : Option Addr) (c : Nat) (l : List (Int × Int)) (w : World) (hf : FieldOf 40 f) (hl : l = runsF 40 f) (h : RnsAt w a c l) :
    Calls Tryz.prog 35 #[.slice a l.length c] w fun e w' => e = .returned (.bool true) ∧ New w w' := by
  have hm1 := h.room; have hm2 := h.cap
  unfold maxLen at hm2
  have hfr : frR 40 l = .ok f := by rw [hl]; exact frR_runs hf
  have HFR := hid (bFrom_any 40 l (.slice a l.length c) w h.runs (by omega))
  rw [hfr] at HFR
  have HRN := hid (fun W => bRuns_any 40 (mkB f) W hf (by omega))
  rw [show (mkB f).data.toList = f from rfl, ← hl] at HRN
  have HEQ := hid (fun W a' c' (n : New w W) (k : RnsAt W a' c' l) => eqR_any a' a c' c l l W k (h.new n))
  clear hfr hl h hf
  go_enter Tryz.func35, Tryz.ntmps35
  go_wp2_with fail
  refine HFR.out.mono ?_
  rintro e w1 ⟨rfl, n1⟩
  have N1 := hid n1
  clear n1
  simp only [frE]
  go_wp2_with fail
  refine (HRN.out _).mono ?_
  rintro e w2 ⟨v, rfl, ho, n2⟩
  obtain ⟨a', c', rfl, hr⟩ := OwnR.at2 ho
  have N2 := hid (N1.out.trans n2)
  have HR := hid hr
  clear n2 ho hr
  go_wp2_with fail
  refine (HEQ.out _ _ _ N2.out HR.out).mono ?_
  rintro e w3 ⟨rfl, n3⟩
  have N3 := hid (N2.out.trans n3)
  clear n3
  go_wp2
  go_ret
  exact ⟨ret_bool (by simp), N3.out⟩
theorem rightT {p : List ByteArray} (h : ∀ s ∈ p, 1 ≤ s.size ∧ s.size ≤ 200) : p.all textM = true := by
  rw [List.all_eq_true]
  intro s hs
  obtain ⟨h1, h2⟩ := h s hs
  unfold textM
  rw [decide_eq_true h1, decide_eq_true h2]
  rfl
set_option maxRecDepth 100000 in
set_option maxHeartbeats 4000000 in
theorem mValid_yes (m : MgV) (p : MgP) (w : World) (h : MagAt w m p) (hok : MgOk m) (hne : ¬ (m.old.data.toList = [] ∧ m.new.data.toList = [])) :
    Calls Tryz.prog 11 #[magVal m p] w fun e w' => e = .returned (.bool true) ∧ New w w' := by
  have hz : ∀ s : ByteArray, s.size = 0 ↔ s.data.toList = [] := fun s => by
    have : s.data.toList.length = s.size := by rw [Array.length_toList]; rfl
    constructor
    · intro e; exact List.eq_nil_of_length_eq_zero (by omega)
    · intro e; rw [← this, e]; rfl
  have BX := hid (Blk.new w (magRow m p) 27)
  have NX := hid ((Mod.refl _ w).alloc (.cells (magRow m p) 27) : New w _)
  have HT := hid (fun W (n : New w W) => allT_any 10 p.ta p.tc m.tr W (h.tr.new n))
  have HS := hid (fun W (n : New w W) => allT_any 10 p.sa p.sc m.ws W (h.ws.new n))
  have HP := hid (fun W (n : New w W) => allA_any 20 p.pa p.pc m.pe W (h.pe.new n))
  obtain ⟨f, hf, hon⟩ := hok.on
  have HR := hid (fun W (n : New w W) => mruns_yes f p.oa p.oc m.on W hf hon (h.on.new n))
  rw [decide_eq_true hok.trl, rightT hok.tr] at HT
  rw [decide_eq_true hok.wsl, rightT hok.ws] at HS
  rw [decide_eq_true hok.pel, show m.pe.all adrOk = true from List.all_eq_true.2 hok.pe] at HP
  simp only [Bool.and_self] at HT HS HP
  have hos := hok.old; have hns := hok.new
  have hnm : (m.name.size : Int) ≤ 100 := by have := hok.name; omega
  have hadd : ∀ w, (Op.stringOp .add m.old m.new).run Tryz.prog w = .ok (.string (m.old ++ m.new)) w := fun w => run_string_add_sum (w := w) _ _ (by omega)
  obtain ⟨OM, hOM⟩ : ∃ OM, OM = m.old ++ m.new := ⟨_, rfl⟩
  have hnl : OM.data.toList ≠ [] := by
    rw [hOM, ByteArray.data_append, Array.toList_append]
    intro q
    exact hne (List.append_eq_nil_iff.1 q)
  rw [← hOM] at hadd
  have hqe : (OM.toList == []) = false := by rw [beq_eq_false_iff_ne, ByteArray.toList_eq]; exact hnl
  have hqn : (OM.toList != []) = true := by rw [bne, hqe]; rfl
  have hqI : OM.toList.isEmpty = false := by
    rw [ByteArray.toList_eq]
    cases hq : OM.data.toList with
    | nil => exact absurd hq hnl
    | cons a b => rfl
  have ho1 : ((m.old.toList == []) = true ∧ m.old.toList.isEmpty = true) ∨ ((m.old.toList == []) = false ∧ m.old.toList.isEmpty = false ∧ ((m.old.size : Int) == 20) = true) := by
    rcases hos with q | q
    · left
      have e := (hz _).1 q
      rw [ByteArray.toList_eq, e]
      exact ⟨rfl, rfl⟩
    · right
      have e : m.old.data.toList ≠ [] := fun e => by have := (hz _).2 e; omega
      refine ⟨by rw [beq_eq_false_iff_ne, ByteArray.toList_eq]; exact e, ?_, by rw [beq_iff_eq]; omega⟩
      rw [ByteArray.toList_eq]
      cases hq : m.old.data.toList with
      | nil => exact absurd hq e
      | cons a b => rfl
  have hn1 : ((m.new.toList == []) = true ∧ m.new.toList.isEmpty = true) ∨ ((m.new.toList == []) = false ∧ m.new.toList.isEmpty = false ∧ ((m.new.size : Int) == 32) = true) := by
    rcases hns with q | q
    · left
      have e := (hz _).1 q
      rw [ByteArray.toList_eq, e]
      exact ⟨rfl, rfl⟩
    · right
      have e : m.new.data.toList ≠ [] := fun e => by have := (hz _).2 e; omega
      refine ⟨by rw [beq_eq_false_iff_ne, ByteArray.toList_eq]; exact e, ?_, by rw [beq_iff_eq]; omega⟩
      rw [ByteArray.toList_eq]
      cases hq : m.new.data.toList with
      | nil => exact absurd hq e
      | cons a b => rfl
  clear hz hos hns hOM hnl hne hf hon h hok
  rcases ho1 with ⟨oe, oI⟩ | ⟨oe, oI, os⟩ <;> rcases hn1 with ⟨ne, nI⟩ | ⟨ne, nI, ns⟩
  all_goals
    go_enter Tryz.func11, Tryz.ntmps11
    go_wp2_with fail
    refine (HT.out _ NX.out).mono ?_
    rintro e w1 ⟨rfl, n1⟩
    have N1 := hid (NX.out.trans n1)
    have B1 := hid (New.blk n1 BX.out)
    have c5 : w1.cell? ⟨w.heap.size, 5, none⟩ = some (.slice p.sa m.ws.length p.sc) := B1.out.cellv 5 rfl
    clear n1
    go_wp2_with fail
    refine (HS.out _ N1.out).mono ?_
    rintro e w2 ⟨rfl, n2⟩
    have N2 := hid (N1.out.trans n2)
    have B2 := hid (New.blk n2 B1.out)
    have c4 : w2.cell? ⟨w.heap.size, 4, none⟩ = some (.slice p.pa m.pe.length p.pc) := B2.out.cellv 4 rfl
    clear n2
    go_wp2_with fail
    refine (HP.out _ N2.out).mono ?_
    rintro e w3 ⟨rfl, n3⟩
    have N3 := hid (N2.out.trans n3)
    have B3 := hid (New.blk n3 B2.out)
    have c6 : w3.cell? ⟨w.heap.size, 6, none⟩ = some (.slice p.oa m.on.length p.oc) := B3.out.cellv 6 rfl
    clear n3
    go_wp2_with fail
    refine (HR.out _ N3.out).mono ?_
    rintro e w4 ⟨rfl, n4⟩
    have N4 := hid (N3.out.trans n4)
    clear n4
    go_wp2
    go_ret
    exact ⟨rfl, N4.out⟩
end Go.Proofs.YtbgmkplpolgebaaGreatDoor
