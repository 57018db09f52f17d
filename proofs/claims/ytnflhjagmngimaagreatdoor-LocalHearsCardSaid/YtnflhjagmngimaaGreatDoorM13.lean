/-
  Several texts in one, in their build order. The library's variables; Atoi of whatever text; a list of texts that the call makes. Conditions as told.
-/
import Derived.Test.YtnflhjagmngimaaGreatDoorM11
import Derived.Test.YtnflhjagmngimaaGreatDoorM6
import Derived.Lib.SmallJoins
namespace Go.Proofs.YtnflhjagmngimaaGreatDoor
set_option linter.unusedSimpArgs false
set_option linter.unusedVariables false
open Go.RowKit Go.Shelf

theorem var_newL {w w' : World} {name : String} {cs : Array Value} (h : w.var? Tryz.prog name = some cs) (hn : New w w') : w'.var? Tryz.prog name = some cs := by
  unfold World.var? at *
  cases hg : Tryz.prog.globalNamed name with
  | none => rw [hg] at h; simp at h
  | some g =>
    rw [hg] at h
    simp only [Option.bind_some] at h ⊢
    have hlt : g < w.heap.size := by
      rcases Nat.lt_or_ge g w.heap.size with h' | h'
      · exact h'
      · simp [Array.getElem?_eq_none h'] at h
    rw [hn.block g hlt (fun x => x)]
    exact h
/-- The library's variables. -/
structure VarsL (w : World) : Prop where
  tab : Tab w
  syn : ∃ tp p, w.var? Tryz.prog "strconv.ErrSyntax" = some #[.iface tp p]
  rng : ∃ tp p, w.var? Tryz.prog "strconv.ErrRange" = some #[.iface tp p]
  max : ∃ m, w.cell? ⟨0, 0, none⟩ = some (.int .i64 m)
  low : 0 < w.heap.size
theorem VarsL.new {w w' : World} (h : VarsL w) (hn : New w w') : VarsL w' := by
  obtain ⟨h1, ⟨tp, p, h2⟩, ⟨tq, q, h3⟩, ⟨m, h4⟩, h5⟩ := h
  exact ⟨h1.new hn, ⟨tp, p, var_newL h2 hn⟩, ⟨tq, q, var_newL h3 hn⟩, ⟨m, hn.cellv h4⟩, Nat.lt_of_lt_of_le h5 hn.size⟩
theorem Mod.newOf {S : Nat → Prop} {w w' : World} (hm : Mod S w w') (hs : ∀ k, k < w.heap.size → ¬ S k) : New w w' :=
  ⟨hm.os, hm.tape, hm.output, hm.size, fun k hk _ => hm.block k hk (hs k hk)⟩
theorem atoi_inL {l : List UInt8} : -9223372036854775808 ≤ atoiV l ∧ atoiV l ≤ 9223372036854775807 := by
  unfold atoiV
  split
  · next v h =>
    cases l with
    | nil => simp [Lib.atoiAll] at h
    | cons c r =>
      simp only [Lib.atoiAll] at h
      split at h
      · cases h
      · cases h
      · next u hu =>
        split at h
        · cases h
        · split at h
          · cases h
          · injection h with h
            rw [← h]
            split <;> omega
  · unfold Lib.atoiSat
    split <;> omega
  · omega
theorem newL_bytes (w : World) (e : TypeId) (s : ByteArray) : New w (Lib.bytesWorld w e s) := New.of_below (Go.Joins.below_bytesWorld w.heap.size w e s (Nat.le_refl _))
/-- Atoi, of whatever text: its number, and whether it has an error. -/
def AtoiR (w w' : World) (t : ByteArray) (e : Ending) : Prop := ∃ x, e = .returned (.tuple #[.int .i64 (atoiV t.data.toList), x]) ∧ ((Lib.atoiAll t.data.toList = .ok (atoiV t.data.toList) ∧ x = .nilIface) ∨ ((∀ v, Lib.atoiAll t.data.toList ≠ .ok v) ∧ ∃ N, x = .iface 151 (.pointer (some N)))) ∧ New w w'
theorem atoi_ok {l : List UInt8} {v : Int} (h : Lib.atoiAll l = .ok v) : atoiV l = v := by unfold atoiV; rw [h]
theorem atoi_syn {l : List UInt8} (h : Lib.atoiAll l = Lib.atoiAll []) : atoiV l = 0 := by unfold atoiV; rw [h]; rfl
theorem atoi_rng {l : List UInt8} (h : Lib.atoiAll l = .range) : atoiV l = Lib.atoiSat l := by unfold atoiV; rw [h]
theorem atoi_full (t : ByteArray) (w : World) (hv : VarsL w) (hs : t.size ≤ 4000000000) :
    Calls Tryz.prog 45 #[.string t] w fun e w' => AtoiR w w' t e := by
  cases ha : Lib.atoiAll t.data.toList with
  | ok v =>
    refine (Tryz.strconv_Atoi_ok t (by omega) v ha w).mono ?_
    rintro e w' ⟨rfl, hw⟩
    refine ⟨_, by rw [atoi_ok ha], .inl ⟨by rw [atoi_ok ha]; exact ha, rfl⟩, ?_⟩
    rcases hw with rfl | ⟨s, rfl⟩
    · exact Mod.refl _ _
    · exact newL_bytes _ _ _
  | range =>
    obtain ⟨tp, p, hsy⟩ := hv.rng
    refine (Tryz.strconv_Atoi_range_var t (by omega) ha tp p w hsy).mono ?_
    rintro e w' ⟨N, rfl, -, -, hb⟩
    exact ⟨_, by rw [atoi_rng ha], .inr ⟨fun v => by (rw [ha]; simp), _, rfl⟩, New.of_below hb⟩
  | _ =>
    obtain ⟨tp, p, hsy⟩ := hv.syn
    refine (Tryz.strconv_Atoi_syntax_var t (by omega) ha tp p w hsy).mono ?_
    rintro e w' ⟨N, rfl, -, -, hb⟩
    exact ⟨_, by rw [atoi_syn ha], .inr ⟨fun v => by (rw [ha]; simp), _, rfl⟩, New.of_below hb⟩
/-! ### a list of texts of the call's own -/
theorem info_str : (Tryz.prog.info? 9).map (fun i => (i.zero, i.size, i.bytes)) = some (some (.string ⟨#[]⟩), 1, 16) := by kernel_rfl
/-- The slice v, of the call's own memory from block base on, holds the texts l. -/
structure OwnT (w : World) (base : Nat) (v : Value) (l : List ByteArray) : Prop where
  row : w.ownsRow base 9 1 v l.length (l.map Value.string)
  small : ∀ s ∈ l, s.size ≤ maxLen
theorem OwnT.nil (w : World) (base : Nat) : OwnT w base (.slice none 0 0) [] := ⟨World.ownsRow_nil _ _ _ _, by simp⟩
theorem OwnT.block {w : World} {base g : Nat} {v : Value} {l : List ByteArray} (h : OwnT w base v l) (hv : v.ownBlock = some g) : base ≤ g ∧ g < w.heap.size := by
  rcases h.row.2 with ⟨rfl, hn⟩ | ⟨g', cap, cur, rfl, hbg, hg, -⟩
  · cases hv
  · injection hv with hv
    subst hv
    exact ⟨hbg, (Array.getElem?_eq_some_iff.1 hg).1⟩
theorem OwnT.mod {S : Nat → Prop} {w w' : World} {base : Nat} {v : Value} {l : List ByteArray} (h : OwnT w base v l) (n : Mod S w w') (hs : ∀ k, base ≤ k → k < w.heap.size → ¬ S k) : OwnT w' base v l := by
  refine ⟨?_, h.small⟩
  rcases h.row.2 with ⟨rfl, hn⟩ | ⟨g, cap, cur, rfl, hbg, hg, r⟩
  · exact ⟨h.row.1, .inl ⟨rfl, hn⟩⟩
  · have hlt := (Array.getElem?_eq_some_iff.1 hg).1
    exact ⟨h.row.1, .inr ⟨g, cap, cur, rfl, hbg, (n.block g hlt (hs g hbg hlt)).trans hg, r⟩⟩
theorem OwnT.new {w w' : World} {base : Nat} {v : Value} {l : List ByteArray} (h : OwnT w base v l) (n : New w w') : OwnT w' base v l := h.mod n (fun _ _ _ x => x)
theorem OwnT.strs {w : World} {base : Nat} {v : Value} {l : List ByteArray} (h : OwnT w base v l) : ∃ a c, v = .slice a l.length c ∧ StrsAt w a c l ∧ ∀ x, a = some x → base ≤ x.block ∧ x.block < w.heap.size := by
  rcases h.row.2 with ⟨rfl, hn⟩ | ⟨g, cap, cur, rfl, hbg, hg, hnc, hcm, hcs, htake⟩
  · have : l = [] := List.eq_nil_of_length_eq_zero hn
    subst this
    exact ⟨none, 0, rfl, ⟨by simp, by simp [maxLen], by simp, .inl rfl⟩, by simp⟩
  · have hlt := (Array.getElem?_eq_some_iff.1 hg).1
    refine ⟨some ⟨g, 0, none⟩, cap, rfl, ⟨hnc, hcm, h.small, .inr ⟨g, 0, rfl, hlt, fun i s hi => ?_⟩⟩, fun x hx => ?_⟩
    · have h1 := h.row.cells (g := g) rfl i (.string s) (by simp [hi])
      have hadd : ∀ k, (⟨g, 0, none⟩ : Addr).add k = ⟨g, 0 + k, none⟩ := fun k => by unfold Addr.add; split <;> simp_all
      rw [hadd] at h1
      exact h1
    · simp at hx
      subst hx
      exact ⟨hbg, hlt⟩
theorem ownT_of {w : World} {base : Nat} {v : Value} {l : List ByteArray} {s : ByteArray} (hl : ∀ s ∈ l, s.size ≤ maxLen) (hs : s.size ≤ maxLen) (h : w.ownsRow base 9 1 v (l.length + 1) (l.map Value.string ++ [.string s])) : OwnT w base v (l ++ [s]) := by
  refine ⟨by rw [List.length_append, List.map_append]; exact h, fun x hx => ?_⟩
  rcases List.mem_append.1 hx with q | q
  · exact hl x q
  · simp only [List.mem_singleton] at q
    rw [q]
    exact hs
theorem mod_grownT {w w0 w' : World} {base B : Nat} {v : Value} {l : List ByteArray} (h : OwnT w base v l) (hb : B ≤ base) (n : Mod (fun k => B ≤ k) w0 w) (g : w.grownBy w' v.ownBlock) : Mod (fun k => B ≤ k) w0 w' :=
  ⟨g.os.trans n.os, g.tape.trans n.tape, g.output.trans n.output, Nat.le_trans n.size g.size, fun k hk hx => (g.block k (Nat.lt_of_lt_of_le hk n.size) (fun q => hx (by have := (h.block q.symm).1; omega))).trans (n.block k hk hx)⟩
end Go.Proofs.YtnflhjagmngimaaGreatDoor
