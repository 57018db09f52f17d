/-
  Several texts in one, in their build order. The acts of the law LocalPlays as they lie, and the law's own guard (coveylaw23.light). Conditions: the list lies as told.
-/
import Derived.Test.YtnflhjagmngimaaGreatDoorM14
import Derived.Test.YtnflhjagmngimaaGreatDoorM19
namespace Go.Proofs.YtnflhjagmngimaaGreatDoor
set_option linter.unusedSimpArgs false
set_option linter.unusedVariables false
open Go.RowKit

/-- Something that a crier is asked. -/
structure ActK where
  kind : Int
  later : Int
  name : ByteArray
  text : ByteArray
  frm : AdrV
  msg : MsgV
  na : Option Addr
  nc : Nat
  priv : Bool
def actCells (x : ActK) : List Value := [.int .i64 x.kind, .int .i64 x.later, .string x.name, .string x.text, .int .i64 x.frm.fam, .string x.frm.ip, .int .i64 x.frm.port, .int .i64 x.msg.port, .slice x.na x.msg.names.length x.nc, .string x.msg.cookie, .bool x.priv]
structure ActK.Ok (w : World) (x : ActK) : Prop where
  name : x.name.size ≤ maxLen
  text : x.text.size ≤ maxLen
  ip : x.frm.ip.size ≤ maxLen
  msg : MsgAt w x.na x.nc x.msg
theorem ActK.Ok.new {w w' : World} {x : ActK} (h : x.Ok w) (n : New w w') : x.Ok w' := ⟨h.name, h.text, h.ip, h.msg.new n⟩
structure ActsL (w : World) (a : Option Addr) (c : Nat) (l : List ActK) : Prop where
  room : l.length ≤ c
  cap : c ≤ maxLen
  at' : l = [] ∨ ∃ b o, a = some ⟨b, o, none⟩ ∧ b < w.heap.size ∧ ∀ (i : Nat) x, l[i]? = some x → (∀ (j : Nat) v, (actCells x)[j]? = some v → w.cell? ⟨b, o + i * 11 + j, none⟩ = some v) ∧ x.Ok w
theorem ActsL.new {w w' : World} {a : Option Addr} {c : Nat} {l : List ActK} (h : ActsL w a c l) (hn : New w w') : ActsL w' a c l := by
  refine ⟨h.room, h.cap, ?_⟩
  rcases h.at' with h | ⟨b, o, e, hb, hc⟩
  · exact .inl h
  · exact .inr ⟨b, o, e, Nat.lt_of_lt_of_le hb hn.size, fun i x hx => ⟨fun j v hv => hn.cellv ((hc i x hx).1 j v hv), (hc i x hx).2.new hn⟩⟩
theorem ActsL.get {w : World} {a : Option Addr} {c : Nat} {l : List ActK} (h : ActsL w a c l) (hz : 0 < l.length) : ∃ b o, a = some ⟨b, o, none⟩ ∧ b < w.heap.size ∧ ∀ (i : Nat) (hi : i < l.length), (∀ (j : Nat) v, (actCells l[i])[j]? = some v → w.cell? ⟨b, o + i * 11 + j, none⟩ = some v) ∧ (l[i]).Ok w := by
  rcases h.at' with h | ⟨b, o, e, hb, hc⟩
  · subst h; simp at hz
  · exact ⟨b, o, e, hb, fun i hi => hc i _ (List.getElem?_eq_getElem hi)⟩
theorem ActsL.nil (w : World) : ActsL w none 0 [] := ⟨by simp, by simp [maxLen], .inl rfl⟩
def ActK.ok (x : ActK) : Bool := decide (x.name.size ≤ 40) && decide (x.text.size ≤ 1500) && decide (x.msg.names.length ≤ 30) && decide (x.msg.cookie.size ≤ 40) && decide (x.later ≤ 10000000) && decide (-10000000 ≤ x.later)
def lightK (l : List ActK) : Bool := decide (l.length ≤ 100) && l.all ActK.ok
theorem lightK_facts {l : List ActK} (h : lightK l = true) : l.length ≤ 100 ∧ ∀ x ∈ l, x.name.size ≤ 40 ∧ x.text.size ≤ 1500 ∧ -10000000 ≤ x.later ∧ x.later ≤ 10000000 := by
  unfold lightK ActK.ok at h
  simp only [Bool.and_eq_true, decide_eq_true_eq, List.all_eq_true] at h
  refine ⟨h.1, fun x hx => ?_⟩
  obtain ⟨⟨⟨⟨⟨h1, h2⟩, h3⟩, h4⟩, h5⟩, h6⟩ := h.2 x hx
  exact ⟨h1, h2, h6, h5⟩
theorem allK_upto {α : Type} {p : List α} {f : α → Bool} {k : Nat} (hk : ¬ k < p.length) (h : ∀ (j : Nat) (hj : j < p.length), j < k → f p[j] = true) : p.all f = true := by
  rw [List.all_eq_true]
  intro x hx
  obtain ⟨j, hj, rfl⟩ := List.mem_iff_getElem.1 hx
  exact h j hj (by omega)
theorem allK_not {α : Type} {p : List α} {f : α → Bool} {k : Nat} (hk : k < p.length) (h : f p[k] = false) : p.all f = false := by
  rw [List.all_eq_false]
  exact ⟨_, List.getElem_mem hk, by simp [h]⟩
theorem ret_boolK {a b : Bool} (h : a = b) : Ending.returned (.bool a) = .returned (.bool b) := by rw [h]
set_option maxRecDepth 100000 in
set_option maxHeartbeats 8000000 in
theorem lightK_any (la : Option Addr) (lc : Nat) (l : List ActK) (w : World) (hl : ActsL w la lc l) :
    Calls Tryz.prog 17 #[.slice la l.length lc] w fun e w' => e = .returned (.bool (lightK l)) ∧ New w w' := by
  have hlr := hl.room; have hlc := hl.cap
  unfold maxLen at hlc
  obtain ⟨R, hR⟩ : ∃ R, R = lightK l := ⟨_, rfl⟩
  rw [← hR]
  unfold lightK at hR
  have HL := hid hl
  clear hl
  by_cases g1 : 100 < l.length
  · rw [decide_eq_false (by omega)] at hR
    have HR := hid (show R = false by rw [hR]; simp)
    clear hR
    go_enter Tryz.func17, Tryz.ntmps17
    go_wp2
    go_ret
    exact ⟨ret_boolK HR.out.symm, Mod.refl _ _⟩
  rw [decide_eq_true (by omega), Bool.true_and] at hR
  have HR := hid hR
  clear hR
  go_enter Tryz.func17, Tryz.ntmps17
  go_wp2
  go_loopw [10] (fun x w' => ∃ j : Nat, x = .int .i64 j ∧ j ≤ l.length ∧ (∀ (i : Nat) (hi : i < l.length), i < j → l[i].ok = true) ∧ New w w') (fun x _ => l.length - (intOf x).toNat)
  case atStart => exact ⟨0, rfl, by omega, by intros; omega, Mod.refl _ _⟩
  case round =>
    obtain ⟨i, rfl, hi, hb, hn⟩ := hrel
    have HB := hid hb; have HN := hid hn
    clear hb
    by_cases hlt2 : i < l.length
    · obtain ⟨b1, o1, rfl, hb1, hc1⟩ := HL.out.get (by omega)
      obtain ⟨hcc, hok⟩ := hc1 i hlt2
      obtain ⟨k1, k2, k3, k4⟩ := hok
      have k5 := k4.cook; have k6 := k4.names.room; have k7 := k4.names.cap
      obtain ⟨x, hx⟩ : ∃ x, x = l[i] := ⟨_, rfl⟩
      rw [← hx] at hcc k1 k2 k5 k6 k7
      obtain ⟨kind, later, name, text, ⟨fam, ip, aport⟩, ⟨cport, names, cook⟩, na, nc, priv⟩ := x
      have g0 := hn.cellv (hcc 0 _ rfl); have g1 := hn.cellv (hcc 1 _ rfl); have g2 := hn.cellv (hcc 2 _ rfl); have g3 := hn.cellv (hcc 3 _ rfl); have g4 := hn.cellv (hcc 4 _ rfl); have g5 := hn.cellv (hcc 5 _ rfl)
      have g6 := hn.cellv (hcc 6 _ rfl); have g7 := hn.cellv (hcc 7 _ rfl); have g8 := hn.cellv (hcc 8 _ rfl); have g9 := hn.cellv (hcc 9 _ rfl); have g10 := hn.cellv (hcc 10 _ rfl)
      simp only [Nat.add_zero] at g0 g1 g2 g3 g4 g5 g6 g7 g8 g9 g10 k1 k2 k5 k6 k7
      have HX := hid hx
      unfold maxLen at k1 k2 k5 k7
      clear hc1 hn hx hcc k3 k4
      by_cases h1 : 40 < name.size
      · have HE2 := hid (show l.all ActK.ok = false from allK_not hlt2 (by rw [← HX.out]; unfold ActK.ok; simp only; rw [show decide (name.size ≤ 40) = false from decide_eq_false (by omega)]; simp))
        go_wp2
        go_ret
        exact ⟨ret_boolK (by rw [HR.out, HE2.out]), HN.out.alloc _⟩
      by_cases h2 : 1500 < text.size
      · have HE2 := hid (show l.all ActK.ok = false from allK_not hlt2 (by rw [← HX.out]; unfold ActK.ok; simp only; rw [show decide (text.size ≤ 1500) = false from decide_eq_false (by omega)]; simp))
        go_wp2
        go_ret
        exact ⟨ret_boolK (by rw [HR.out, HE2.out]), HN.out.alloc _⟩
      by_cases h3 : 30 < names.length
      · have HE2 := hid (show l.all ActK.ok = false from allK_not hlt2 (by rw [← HX.out]; unfold ActK.ok; simp only; rw [show decide (names.length ≤ 30) = false from decide_eq_false (by omega)]; simp))
        go_wp2
        go_ret
        exact ⟨ret_boolK (by rw [HR.out, HE2.out]), HN.out.alloc _⟩
      by_cases h4 : 40 < cook.size
      · have HE2 := hid (show l.all ActK.ok = false from allK_not hlt2 (by rw [← HX.out]; unfold ActK.ok; simp only; rw [show decide (cook.size ≤ 40) = false from decide_eq_false (by omega)]; simp))
        go_wp2
        go_ret
        exact ⟨ret_boolK (by rw [HR.out, HE2.out]), HN.out.alloc _⟩
      by_cases h5 : 10000000 < later
      · have HE2 := hid (show l.all ActK.ok = false from allK_not hlt2 (by rw [← HX.out]; unfold ActK.ok; simp only; rw [show decide (later ≤ 10000000) = false from decide_eq_false (by omega)]; simp))
        go_wp2
        go_ret
        exact ⟨ret_boolK (by rw [HR.out, HE2.out]), HN.out.alloc _⟩
      by_cases h6 : later < -10000000
      · have HE2 := hid (show l.all ActK.ok = false from allK_not hlt2 (by rw [← HX.out]; unfold ActK.ok; simp only; rw [show decide (-10000000 ≤ later) = false from decide_eq_false (by omega)]; simp))
        go_wp2
        go_ret
        exact ⟨ret_boolK (by rw [HR.out, HE2.out]), HN.out.alloc _⟩
      have HE2 := hid (show (l[i]).ok = true by
        rw [← HX.out]
        unfold ActK.ok
        simp only
        rw [decide_eq_true (by omega), decide_eq_true (by omega), decide_eq_true (by omega), decide_eq_true (by omega), decide_eq_true (by omega), decide_eq_true (by omega)]
        rfl)
      go_wp2
      refine ⟨⟨i + 1, by simp, by omega, fun j hj h => ?_, HN.out.alloc _⟩, by simp [intOf]; omega⟩
      rcases Nat.lt_succ_iff_lt_or_eq.1 h with h | h
      · exact HB.out j hj h
      · subst h; exact HE2.out
    · have HE := hid (allK_upto (f := ActK.ok) hlt2 (fun j hj h => HB.out j hj h))
      clear HB
      go_wp2
      go_ret
      exact ⟨ret_boolK (by rw [HR.out, HE.out]), HN.out⟩
end Go.Proofs.YtnflhjagmngimaaGreatDoor
