/-
  Several texts in one, in their build order. Each deed of both criers in one word: what both answer, and that both stay alike. Conditions: both lie as told. Tell and Hear of both criers: what both answer is the same, and both stay alike. Conditions: both lie as told.
-/
import Derived.Test.YtnflhjagmngimaaGreatDoorM37
import Derived.Test.YtnflhjagmngimaaGreatDoorM40
import Derived.Test.YtnflhjagmngimaaGreatDoorM41
import Derived.Test.YtnflhjagmngimaaGreatDoorM43
namespace Go.Proofs.YtnflhjagmngimaaGreatDoor
set_option linter.unusedSimpArgs false
set_option linter.unusedVariables false
open Go.RowKit Go.Shelf

/-- The blocks of the program's crier. -/
def CrT (B M H k : Nat) : Prop := k = B ∨ k = M ∨ k = H
/-- Both criers know the same, and each is as a crier is. -/
structure Both (c : CrV) (r : RcV) : Prop where
  ok : CrOk c
  rok : RcOk r
  alk : Alk c r
  hb : ∀ k, 0 ≤ c.heard k ∧ c.heard k ≤ 20
  mn : c.min ≤ c.now / 60000
/-- What a deed of the program's crier leaves. -/
def CDeed (w : World) (B M H : Nat) (c2 : CrV) (w' : World) : Prop := ∃ H', CrAt w' B M H' c2 ∧ (H' = H ∨ w.heap.size ≤ H') ∧ Mod (CrT B M H) w w'
/-- What a deed of the reference's crier leaves. -/
def RDeed (w : World) (R : Nat) (aa ah : Option Addr) (r2 : RcV) (w' : World) : Prop := ∃ aa' ah' ca' ch', RcAt w' R aa' ah' ca' ch' r2 ∧ Mod (RcT R aa ah) w w'
theorem CDeed.same {w w' : World} {B M H : Nat} {c : CrV} (h : CrAt w B M H c) (n : New w w') : CDeed w B M H c w' := ⟨H, h.new n, .inl rfl, New.mod n⟩
theorem RDeed.same {w w' : World} {R : Nat} {aa ah : Option Addr} {ca ch : Nat} {r : RcV} (h : RcAt w R aa ah ca ch r) (n : New w w') : RDeed w R aa ah r w' := ⟨aa, ah, ca, ch, h.new n, New.mod n⟩
theorem RDeed.kept {w w' : World} {R : Nat} {aa ah aa' ah' : Option Addr} {ca' ch' : Nat} {r : RcV} (h : RcAt w' R aa' ah' ca' ch' r) (m : Mod (· = R) w w') : RDeed w R aa ah r w' := ⟨aa', ah', ca', ch', h, m.mono (fun _ _ q => .inl q)⟩
theorem both_add {c : CrV} {r : RcV} (b : Both c r) (k : ByteArray) (priv : Bool) (hs : k.size ≤ maxLen) :
    ∃ (E : Int) (c2 : CrV) (r2 : RcV), Both c2 r2 ∧ r2.heard = r.heard ∧
      (∀ (B M H : Nat) (w : World), CrAt w B M H c → Calls Tryz.prog 8 #[.pointer (some ⟨B, 0, none⟩), .string k, .bool priv] w fun e w' => e = .returned (.int .i64 E) ∧ CDeed w B M H c2 w') ∧
      (∀ (R : Nat) (aa ah : Option Addr) (ca ch : Nat) (w : World), RcAt w R aa ah ca ch r → Calls Tryz.prog 19 #[.pointer (some ⟨R, 0, none⟩), .string k, .bool priv] w fun e w' => e = .returned (.int .i64 E) ∧ RDeed w R aa ah r2 w') := by
  have hE := b.alk.addE b.ok k priv
  by_cases g : c.addE k priv = 0
  · refine ⟨0, c.addC k, r.addC k, ⟨b.ok.add g, b.rok.add b.alk.asc (hE ▸ g), b.alk.add g, b.hb, b.mn⟩, rfl, fun B M H w h => ?_, fun R aa ah ca ch w h => ?_⟩
    · exact (cAdd_yes B M H c k priv w h hs g).mono fun e w' ⟨h1, h2, h3⟩ => ⟨h1, H, h2, .inl rfl, h3.mono (fun _ _ q => .inr (.inl q))⟩
    · exact (rAdd_yes R aa ah ca ch r k priv w h hs b.rok.size (hE ▸ g)).mono fun e w' ⟨a, c', h1, h2, h3, _⟩ => ⟨h1, .kept h2 h3⟩
  · refine ⟨c.addE k priv, c, r, b, rfl, fun B M H w h => ?_, fun R aa ah ca ch w h => ?_⟩
    · exact (cAdd_no B M H c k priv w h hs g).mono fun e w' ⟨h1, h2⟩ => ⟨h1, .same h h2⟩
    · rw [hE]
      exact (rAdd_no R aa ah ca ch r k priv w h b.rok.few hs (hE ▸ g)).mono fun e w' ⟨h1, h2⟩ => ⟨h1, .same h h2⟩
theorem both_drop {c : CrV} {r : RcV} (b : Both c r) (k : ByteArray) (hs : k.size ≤ maxLen) :
    ∃ (E : Int) (c2 : CrV) (r2 : RcV), Both c2 r2 ∧ r2.heard = r.heard ∧
      (∀ (B M H : Nat) (w : World), CrAt w B M H c → Calls Tryz.prog 20 #[.pointer (some ⟨B, 0, none⟩), .string k] w fun e w' => e = .returned (.int .i64 E) ∧ CDeed w B M H c2 w') ∧
      (∀ (R : Nat) (aa ah : Option Addr) (ca ch : Nat) (w : World), RcAt w R aa ah ca ch r → Calls Tryz.prog 21 #[.pointer (some ⟨R, 0, none⟩), .string k] w fun e w' => e = .returned (.int .i64 E) ∧ RDeed w R aa ah r2 w') := by
  have hE := b.alk.dropE k
  by_cases g : c.dropE k = 0
  · refine ⟨0, c.dropC k, r.dropC k, ⟨b.ok.drop k, b.rok.drop k, b.alk.drop g, b.hb, b.mn⟩, rfl, fun B M H w h => ?_, fun R aa ah ca ch w h => ?_⟩
    · exact (cDrop_yes B M H c k w h hs g).mono fun e w' ⟨h1, h2, h3⟩ => ⟨h1, H, h2, .inl rfl, h3.mono (fun _ _ q => .inr (.inl q))⟩
    · exact (rDrop_yes R aa ah ca ch r k w h b.rok.few hs (hE ▸ g)).mono fun e w' ⟨a, c', h1, h2, h3, _⟩ => ⟨h1, .kept h2 h3⟩
  · refine ⟨c.dropE k, c, r, b, rfl, fun B M H w h => ?_, fun R aa ah ca ch w h => ?_⟩
    · exact (cDrop_no B M H c k w h hs g).mono fun e w' ⟨h1, h2⟩ => ⟨h1, .same h h2⟩
    · rw [hE]
      exact (rDrop_no R aa ah ca ch r k w h b.rok.few hs (hE ▸ g)).mono fun e w' ⟨h1, h2⟩ => ⟨h1, .same h h2⟩
theorem min_turn {c : CrV} {t : Int} (hle : c.now ≤ t) (hmn : c.min ≤ c.now / 60000) : c.min ≤ t / 60000 := Int.le_trans hmn (Int.ediv_le_ediv (by decide) hle)
theorem turn_mn (c : CrV) (t : Int) : (c.turnC t).min = t / 60000 ∧ (c.turnC t).now = t := by
  unfold CrV.turnC
  split
  · next g => exact ⟨g.symm, rfl⟩
  · exact ⟨rfl, rfl⟩
theorem turn_hb {c : CrV} (h : ∀ k, 0 ≤ c.heard k ∧ c.heard k ≤ 20) (t : Int) : ∀ k, 0 ≤ (c.turnC t).heard k ∧ (c.turnC t).heard k ≤ 20 := by
  intro k
  unfold CrV.turnC
  split
  · exact h k
  · exact ⟨Int.le_refl _, by show (0 : Int) ≤ 20; decide⟩
theorem Both.turn {c : CrV} {r : RcV} (b : Both c r) {t : Int} (h1 : c.now ≤ t) (h2 : t ≤ 1000000000) : Both (c.turnC t) { r with now := t } := by
  obtain ⟨q1, q2⟩ := turn_mn c t
  exact ⟨b.ok.turn h1 h2, b.rok.clock (by rw [b.alk.now]; exact h1) h2, b.alk.turn b.ok.min h1 (min_turn h1 b.mn), turn_hb b.hb t, by rw [q1, q2]; exact Int.le_refl _⟩
theorem both_heard {c : CrV} {r : RcV} (b : Both c r) (t : Int) (x : AdrV) (hs : x.ip.size ≤ maxLen) :
    ∃ (V E : Int) (c2 : CrV) (r2 : RcV), Both c2 r2 ∧ r2.heard = r.heard ∧
      (∀ (B M H : Nat) (w : World), CrAt w B M H c → Calls Tryz.prog 24 #[.pointer (some ⟨B, 0, none⟩), .int .i64 t, .agg #[.int .i64 x.fam, .string x.ip, .int .i64 x.port]] w fun e w' => e = .returned (.tuple #[.int .i64 V, .int .i64 E]) ∧ CDeed w B M H c2 w') ∧
      (∀ (R : Nat) (aa ah : Option Addr) (ca ch : Nat) (w : World), RcAt w R aa ah ca ch r → Calls Tryz.prog 25 #[.pointer (some ⟨R, 0, none⟩), .int .i64 t, .agg #[.int .i64 x.fam, .string x.ip, .int .i64 x.port]] w fun e w' => e = .returned (.tuple #[.int .i64 V, .int .i64 E]) ∧ RDeed w R aa ah r2 w') := by
  have hE : c.heardE t x = r.heardE t x := by unfold CrV.heardE RcV.heardE; rw [b.alk.atE]
  by_cases g : c.heardE t x = 0
  · have gr : r.heardE t x = 0 := hE ▸ g
    have ga : c.atE t = 0 := by
      unfold CrV.heardE at g
      split at g
      · cases g
      · exact g
    obtain ⟨q1, q2⟩ := at_factsC ga
    have hV : r.heardR t x = (c.turnC t).heard x.ip := by
      unfold RcV.heardR
      rw [if_pos gr]
      exact (b.alk.heard b.ok.min q1 (min_turn q1 b.mn) x.ip).symm
    refine ⟨(c.turnC t).heard x.ip, 0, c.turnC t, { r with now := t }, b.turn q1 q2, rfl, fun B M H w h => ?_, fun R aa ah ca ch w h => ?_⟩
    · exact (cHeard_yes B M H c t x w h b.ok hs g).mono fun e w' ⟨H', h1, h2, h3, h4⟩ => ⟨h1, H', h2, h3, h4.mono (fun _ _ q => .inl q)⟩
    · refine (rHeard_any R aa ah ca ch r t x w h b.rok hs).mono fun e w' ⟨h1, h2, h3⟩ => ⟨?_, ?_⟩
      · rw [h1, hV, gr]
      · rw [gr] at h2
        exact .kept h2 h3
  · have gr : r.heardE t x ≠ 0 := hE ▸ g
    refine ⟨0, c.heardE t x, c, r, b, rfl, fun B M H w h => ?_, fun R aa ah ca ch w h => ?_⟩
    · exact (cHeard_no B M H c t x w h hs g).mono fun e w' ⟨h1, h2⟩ => ⟨h1, .same h h2⟩
    · refine (rHeard_any R aa ah ca ch r t x w h b.rok hs).mono fun e w' ⟨h1, h2, h3⟩ => ⟨?_, ?_⟩
      · rw [h1, hE]
        unfold RcV.heardR
        rw [if_neg gr]
      · unfold RcV.at at h2
        rw [if_neg gr] at h2
        exact .kept h2 h3
theorem Both.clock {c : CrV} {r : RcV} (b : Both c r) {t : Int} (h1 : c.now ≤ t) (h2 : t ≤ 1000000000) : Both { c with now := t } { r with now := t } :=
  ⟨b.ok.when h1 h2, b.rok.clock (by rw [b.alk.now]; exact h1) h2, b.alk.clock t, b.hb, (show c.min ≤ t / 60000 from min_turn h1 b.mn)⟩
theorem both_when {c : CrV} {r : RcV} (b : Both c r) (t : Int) :
    ∃ (V E : Int) (c2 : CrV) (r2 : RcV), Both c2 r2 ∧ r2.heard = r.heard ∧
      (∀ (B M H : Nat) (w : World), CrAt w B M H c → Calls Tryz.prog 9 #[.pointer (some ⟨B, 0, none⟩), .int .i64 t] w fun e w' => e = .returned (.tuple #[.int .i64 V, .int .i64 E]) ∧ CDeed w B M H c2 w') ∧
      (∀ (R : Nat) (aa ah : Option Addr) (ca ch : Nat) (w : World), RcAt w R aa ah ca ch r → Calls Tryz.prog 26 #[.pointer (some ⟨R, 0, none⟩), .int .i64 t] w fun e w' => e = .returned (.tuple #[.int .i64 V, .int .i64 E]) ∧ RDeed w R aa ah r2 w') := by
  refine ⟨r.whenR t, r.whenE t, if r.whenE t = 0 then { c with now := t } else c, r.at (r.whenE t) t, ?_, ?_, fun B M H w h => ?_, fun R aa ah ca ch w h => ?_⟩
  · unfold RcV.at
    split
    · next g =>
      have ga : c.atE t = 0 := by
        rw [b.alk.atE]
        unfold RcV.whenE at g
        split at g
        · exact g
        · next q => exact Decidable.not_not.1 q
      obtain ⟨q1, q2⟩ := at_factsC ga
      exact b.clock q1 q2
    · exact b
  · unfold RcV.at
    split <;> rfl
  · by_cases ga : c.atE t = 0
    · obtain ⟨q1, q2⟩ := at_factsC ga
      have hnow := b.ok.now; have hev := b.ok.every
      have hrE : r.whenE t = if r.all = [] then 8 else if 1000000000 < r.whenT t then 8 else 0 := by
        unfold RcV.whenE
        rw [if_neg (by rw [← b.alk.atE, ga]; decide)]
      refine (cWhen_any B M H c t w h b.ok ga).mono fun e w' q => ?_
      rcases q with ⟨h0, h1, h2⟩ | ⟨f, hf, hmin, h3⟩
      · have hW : r.whenE t = 8 := by rw [hrE, if_pos (b.alk.none h0)]
        unfold RcV.whenR
        rw [hW, if_neg (by decide), if_neg (by decide)]
        exact ⟨h1, .same h h2⟩
      · have hT := b.alk.whenT (t := t) (by omega) (by omega) hf hmin
        rw [if_neg (b.alk.some hf), hT] at hrE
        rcases h3 with ⟨h4, h5, h6⟩ | ⟨h4, h5, h6, h7⟩
        · rw [if_pos h4] at hrE
          unfold RcV.whenR
          rw [hrE, if_neg (by decide), if_neg (by decide)]
          exact ⟨h5, .same h h6⟩
        · rw [if_neg (by omega)] at hrE
          unfold RcV.whenR
          rw [hrE, if_pos rfl, if_pos rfl, hT]
          exact ⟨h5, H, h6, .inl rfl, h7.mono (fun _ _ q => .inl q)⟩
    · have hW : r.whenE t = c.atE t := by unfold RcV.whenE; rw [if_pos (by rw [← b.alk.atE]; exact ga), b.alk.atE]
      unfold RcV.whenR
      rw [hW, if_neg ga, if_neg ga]
      exact (cWhen_late B M H c t w h ga).mono fun e w' ⟨h1, h2⟩ => ⟨h1, .same h h2⟩
  · exact (rWhen_any R aa ah ca ch r t w h b.rok).mono fun e w' ⟨h1, h2, h3⟩ => ⟨h1, .kept h2 h3⟩
end Go.Proofs.YtnflhjagmngimaaGreatDoor

namespace Go.Proofs.YtnflhjagmngimaaGreatDoor
set_option linter.unusedSimpArgs false
set_option linter.unusedVariables false
open Go.RowKit Go.Shelf

theorem put_mem {t : Int} {T : List Nat} {U : List (ByteArray × Int)} {x : ByteArray × Int} (hx : x ∈ T.foldl (putT t) U) : ∃ y ∈ U, x.1 = y.1 ∧ (x.2 = t ∨ x.2 = y.2) := by
  obtain ⟨hl, hp⟩ := put_all (U := U) (t := t) T U
  obtain ⟨j, hj, rfl⟩ := List.getElem_of_mem hx
  have hjU : j < U.length := by omega
  have h1 := hp j hjU
  rw [List.getElem?_eq_getElem hj] at h1
  have h2 := Option.some.inj h1
  refine ⟨U[j], List.getElem_mem hjU, by rw [h2], ?_⟩
  rw [h2]
  by_cases g : j ∈ T
  · left; show (if j ∈ T then t else _) = t; rw [if_pos g]
  · right; show (if j ∈ T then t else _) = _; rw [if_neg g]
theorem put_names {t : Int} (T : List Nat) (U : List (ByteArray × Int)) : (T.foldl (putT t) U).map (·.1) = U.map (·.1) := by
  obtain ⟨hl, hp⟩ := put_all (U := U) (t := t) T U
  refine List.ext_getElem (by rw [List.length_map, List.length_map, hl]) (fun j h1 h2 => ?_)
  rw [List.length_map] at h1 h2
  rw [List.getElem_map, List.getElem_map]
  have h3 := hp j h2
  rw [List.getElem?_eq_getElem h1] at h3
  rw [Option.some.inj h3]
theorem RcOk.tell {r : RcV} (ho : RcOk r) {t : Int} (h1 : r.now ≤ t) (h2 : t ≤ 1000000000) (T : List Nat) : RcOk (r.tellC t T) := by
  have h0 : 0 ≤ t := by have := ho.now; omega
  refine ⟨⟨h0, h2⟩, ho.cook, ho.port, ho.every, ⟨h0, h2⟩, ?_, fun x hx => ?_, fun x hx => ?_, ?_, ho.many⟩
  · show (T.foldl (putT t) r.all).length ≤ 200
    rw [putT_len]; exact ho.few
  · obtain ⟨y, hy, e, -⟩ := put_mem hx
    rw [e]; exact ho.size y hy
  · obtain ⟨y, hy, -, e⟩ := put_mem hx
    have := ho.last y hy
    rcases e with e | e <;> rw [e]
    · omega
    · exact this
  · show ((T.foldl (putT t) r.all).map (·.1)).Nodup
    rw [put_names]; exact ho.names
theorem tell_same {c : CrV} {r : RcV} (b : Both c r) {t : Int} (hat : c.atE t = 0) {w w1 v w2 : World} {B M H R : Nat} {aa ah : Option Addr} {ca ch : Nat} {e e2 : Ending} (hC : CrAt w B M H c) (h1 : TellPost w B M H c t e w1) (h2 : RcTell R aa ah ca ch r t v e2 w2) :
    ∃ (S : ByteArray) (E : Int) (c2 : CrV) (r2 : RcV), e = .returned (.tuple #[.string S, .int .i64 E]) ∧ e2 = .returned (.tuple #[.string S, .int .i64 E]) ∧ Both c2 r2 ∧ r2.heard = r.heard ∧ CDeed w B M H c2 w1 ∧ RDeed v R aa ah r2 w2 := by
  obtain ⟨q1, q2⟩ := at_factsC hat
  have hnow := b.ok.now
  obtain ⟨U, T, rest, N, hU, hp, hw, hN, hv, hd, hs, hc⟩ := h1
  obtain ⟨D, hD, hb, hr⟩ := h2
  have hT := b.alk.told b.ok (t := t) (by omega) hD hb hU hp hw hN hv hd hs
  have hlt : ∀ i ∈ D, i < r.all.length := fun i hi => List.mem_range.1 (List.mem_filter.1 (hD.mem_iff.1 hi)).1
  have hD0 : T = [] ↔ D = [] := by
    rw [← hT]
    constructor
    · intro q
      have := congrArg List.length q
      rw [List.length_map, List.length_take] at this
      rw [List.length_nil] at this
      exact List.eq_nil_of_length_eq_zero (by omega)
    · intro q; rw [q]; rfl
  have hsent : (0 ≤ c.sent ∧ t < c.sent + 1000) ↔ (r.ever = true ∧ t - r.sent < 1000) := by
    rcases b.alk.sent with ⟨s1, s2, s3⟩ | ⟨s1, s2⟩
    · rw [s1, s2]
      constructor
      · intro q; exact ⟨rfl, by omega⟩
      · intro q; exact ⟨s3, by omega⟩
    · rw [s1, s2]
      constructor
      · intro q; omega
      · intro q; cases q.1
  rcases hc with ⟨hc1, hc2, hc3⟩ | ⟨hc1, hc2, hc3, hc4, hc5⟩
  · rcases hr with ⟨hr1, hr2, hr3, hr4⟩ | ⟨hr1, hr2, hr3⟩
    · exact ⟨⟨#[]⟩, 8, c, r, hc2, hr2, b, rfl, .same hC hc3, .kept hr3 hr4⟩
    · exfalso
      rcases hc1 with q | q
      · exact hr1 (hD0.1 q)
      · exact hr2 (hsent.1 q)
  · rcases hr with ⟨hr1, hr2, hr3, hr4⟩ | ⟨hr1, hr2, N2, hr3, hr4, hr5, hr6, hr7⟩
    · exfalso
      rcases hr1 with q | q
      · exact hc1 (hD0.2 q)
      · exact hc2 (hsent.2 q)
    · have hvN : validM ⟨c.port, N, c.cookie⟩ = true := by
        rcases hv with q | q
        · exact absurd q hc1
        · exact q
      have hNN : N2 = N := by
        have p1 := names_pair (valid_parts hr4).2.1
        have p2 := names_pair (valid_parts hvN).2.1
        refine List.Perm.eq_of_pairwise (le := fun x y : ByteArray => leY x.data.toList y.data.toList = true) (fun a b _ _ h1 h2 => ba_eqL (leY_anti h1 h2)) p1 p2 ?_
        rw [hT] at hr3
        exact hr3.trans hN.symm
      subst hNN
      rw [b.alk.port, b.alk.cook] at hr5
      refine ⟨_, 0, c.tellC t N2, r.tellC t (D.take 20), hc3, hr5, ⟨b.ok.tell q1 q2 N2, b.rok.tell (by rw [b.alk.now]; exact q1) q2 _, b.alk.tell (by omega) (fun i hi => hlt i (List.mem_of_mem_take hi)) (fun k => by rw [hT]; exact hN.mem_iff), b.hb, show c.min ≤ t / 60000 from min_turn q1 b.mn⟩, rfl, ⟨H, hc4, .inl rfl, hc5.mono (fun _ _ q => by rcases q with q | q; exact .inl q; exact .inr (.inl q))⟩, ⟨aa, ah, ca, ch, hr6, hr7.mono (fun _ _ q => by rcases q with q | q; exact .inl q; exact .inr (.inl q))⟩⟩
theorem Both.hearE {c : CrV} {r : RcV} (b : Both c r) (t : Int) (x : AdrV) (s : ByteArray) : c.hearE t x s = r.hearE t x s := by
  unfold CrV.hearE RcV.hearE
  rw [b.alk.atE, b.alk.cook]
  by_cases ga : r.atE t ≠ 0
  · rw [if_pos ga, if_pos ga]
  · rw [if_neg ga, if_neg ga]
    have ga2 : c.atE t = 0 := by rw [b.alk.atE]; exact Decidable.not_not.1 ga
    obtain ⟨q1, q2⟩ := at_factsC ga2
    have hm := min_turn q1 b.mn
    have hh := b.alk.heard b.ok.min q1 hm x.ip
    have hiff : (t / 60000 = c.min ∧ c.heard x.ip = 20) ↔ 20 ≤ cntP r.heard x.ip (t / 60000) := by
      have hb := b.hb x.ip
      unfold CrV.turnC at hh
      split at hh
      · next g =>
        have hh : c.heard x.ip = ((cntP r.heard x.ip (t / 60000) : Nat) : Int) := hh
        constructor
        · intro q; omega
        · intro q; exact ⟨g, by omega⟩
      · next g =>
        have hh : (0 : Int) = ((cntP r.heard x.ip (t / 60000) : Nat) : Int) := hh
        constructor
        · intro q; exact absurd q.1 g
        · intro q; omega
    simp only [hiff]
theorem cnt_app (U : List (ByteArray × Int)) (ip k : ByteArray) (m : Int) : cntP (U ++ [(ip, m)]) k m = cntP U k m + (if ip.data = k.data then 1 else 0) := by
  unfold cntP
  rw [List.filter_append, List.length_append]
  congr 1
  by_cases h : ip.data = k.data
  · simp [h]
  · simp [h]
theorem Both.hear {c : CrV} {r : RcV} (b : Both c r) {t : Int} {x : AdrV} {s : ByteArray} (h : c.hearE t x s = 0) (hm : r.heard.length < 1000000) : Both (c.hearC t x.ip) (r.hearC t x.ip) := by
  obtain ⟨-, -, g1, -, -, g2⟩ := hear_parts h
  obtain ⟨q1, q2⟩ := at_factsC g1
  have bt := b.turn q1 q2
  obtain ⟨m1, m2⟩ := turn_mn c t
  have ha : (c.hearC t x.ip).all = (c.turnC t).all := rfl
  have hV : (c.turnC t).heard x.ip < 20 := by
    have h1 := b.hb x.ip
    unfold CrV.turnC
    split
    · next g =>
      show c.heard x.ip < 20
      have : c.heard x.ip ≠ 20 := fun q => g2 ⟨g, q⟩
      omega
    · show (0 : Int) < 20; decide
  have hb2 : ∀ k, 0 ≤ (c.hearC t x.ip).heard k ∧ (c.hearC t x.ip).heard k ≤ 20 := fun k => by
    show 0 ≤ upd (c.turnC t).heard x.ip ((c.turnC t).heard x.ip + 1) k ∧ _
    have h1 := bt.hb k; have h2 := bt.hb x.ip
    unfold upd
    show 0 ≤ (if k.data = x.ip.data then (c.turnC t).heard x.ip + 1 else (c.turnC t).heard k) ∧ (if k.data = x.ip.data then (c.turnC t).heard x.ip + 1 else (c.turnC t).heard k) ≤ 20
    split <;> omega
  refine ⟨?_, ?_, ?_, hb2, ?_⟩
  · have o := bt.ok
    exact ⟨o.now, o.cook, o.port, o.every, o.sent, o.few, o.size, o.last, o.min⟩
  · have o := bt.rok
    exact ⟨o.now, o.cook, o.port, o.every, o.sent, o.few, o.size, o.last, o.names, by show (r.heard ++ [_]).length ≤ _; rw [List.length_append, List.length_singleton]; omega⟩
  · have a := bt.alk
    refine ⟨a.cook, a.port, a.every, a.now, a.sent, a.asc, a.names, a.nod, a.last, fun ip => ?_, fun y hy => ?_⟩
    · show ((cntP (r.heard ++ [(x.ip, t / 60000)]) ip (c.turnC t).min : Nat) : Int) = upd (c.turnC t).heard x.ip ((c.turnC t).heard x.ip + 1) ip
      rw [m1, cnt_app]
      have h1 := a.cnt ip
      have h2 := a.cnt x.ip
      rw [m1] at h1 h2
      unfold upd
      by_cases g : ip.data = x.ip.data
      · rw [if_pos g, if_pos g.symm]
        have e : ip = x.ip := ba_eq g
        rw [e] at h1 ⊢
        have h1 : ((cntP r.heard x.ip (t / 60000) : Nat) : Int) = (c.turnC t).heard x.ip := h1
        omega
      · rw [if_neg g, if_neg (fun q => g q.symm)]
        have h1 : ((cntP r.heard ip (t / 60000) : Nat) : Int) = (c.turnC t).heard ip := h1
        omega
    · show y.2 ≤ (c.turnC t).min
      have hy : y ∈ r.heard ++ [(x.ip, t / 60000)] := hy
      rcases List.mem_append.1 hy with hy | hy
      · exact a.mins y hy
      · rw [List.mem_singleton.1 hy, m1]
        exact Int.le_refl _
  · show (c.turnC t).min ≤ (c.turnC t).now / 60000
    exact bt.mn
theorem Both.inR {c : CrV} {r : RcV} (b : Both c r) : inB c.all = inR r := by
  funext k
  exact b.alk.inB k
theorem Both.start {seed : ByteArray} {port every : Int} (h : newEr seed port every = 0) : Both (newCr seed port every) (newRc seed port every) := by
  have ho := newCr_ok h
  refine ⟨ho, ⟨ho.now, ho.cook, ho.port, ho.every, ⟨Int.le_refl _, by show (0 : Int) ≤ _; decide⟩, Nat.zero_le _, (fun x hx => by cases hx), (fun x hx => by cases hx), List.Pairwise.nil, Nat.zero_le _⟩, ⟨rfl, rfl, rfl, rfl, .inr ⟨rfl, rfl⟩, List.Pairwise.nil, (fun k => ⟨fun q => (by cases q), fun q => (by cases q)⟩), List.Pairwise.nil, (fun x hx => by cases hx), fun ip => rfl, (fun x hx => by cases hx)⟩, fun k => ⟨Int.le_refl _, by show (0 : Int) ≤ 20; decide⟩, by show (0 : Int) ≤ 0 / 60000; decide⟩
end Go.Proofs.YtnflhjagmngimaaGreatDoor
