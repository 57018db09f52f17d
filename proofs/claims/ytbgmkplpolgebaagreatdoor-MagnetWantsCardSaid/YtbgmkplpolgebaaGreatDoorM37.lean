/-
  Several texts in one, in their build order. Each thing once (package magnet: once), of texts and of addresses. Conditions: the lists lie as told; they are small. The bits of either of two fields (package bits: open for two, Or). Conditions: the fields are right; at most 4096 bits.
-/
import Derived.Test.YtbgmkplpolgebaaGreatDoorM36
import Derived.Test.YtbgmkplpolgebaaGreatDoorM30
import Derived.Test.YtbgmkplpolgebaaGreatDoorM17
namespace Go.Proofs.YtbgmkplpolgebaaGreatDoor
set_option linter.unusedSimpArgs false
set_option linter.unusedVariables false
open Go.RowKit Go.Shelf

def OnceS (most : Nat) (w : World) (L : List ByteArray) (e : Ending) (w' : World) : Prop := (L.length ≤ most ∧ ∃ v, e = .returned v ∧ OwnS w' w.heap.size v L) ∨ (most < L.length ∧ e = .panicked (toldM 4))
def OnceA (most : Nat) (w : World) (L : List AdrV) (e : Ending) (w' : World) : Prop := (L.length ≤ most ∧ ∃ v, e = .returned v ∧ OwnA w' w.heap.size v L) ∨ (most < L.length ∧ e = .panicked (toldM 4))
theorem once_yes {α : Type} [DecidableEq α] {L : List α} {k : Nat} (h : k < L.length) (hx : hasX L[k] (onceL (L.take k)) = true) : onceL (L.take (k + 1)) = onceL (L.take k) := by
  rw [lst_next h, onceL_snoc]
  unfold onceP
  rw [if_pos (of_decide_eq_true hx)]
theorem once_new {α : Type} [DecidableEq α] {L : List α} {k : Nat} (h : k < L.length) (hx : hasX L[k] (onceL (L.take k)) = false) : onceL (L.take (k + 1)) = onceL (L.take k) ++ [L[k]] := by
  rw [lst_next h, onceL_snoc]
  unfold onceP
  rw [if_neg (of_decide_eq_false hx)]
theorem OwnS.base {w : World} {base base' : Nat} {v : Value} {l : List ByteArray} (h : OwnS w base v l) (hb : base' ≤ base) : OwnS w base' v l := ⟨rowBase h.row hb, h.small⟩
theorem OwnA.base {w : World} {base base' : Nat} {v : Value} {l : List AdrV} (h : OwnA w base v l) (hb : base' ≤ base) : OwnA w base' v l := ⟨rowBase h.row hb⟩
set_option maxRecDepth 100000 in
set_option maxHeartbeats 4000000 in
theorem onceS_any (a b : Option Addr) (c d : Nat) (p q : List ByteArray) (most : Nat) (w : World) (hp : StrsAt w a c p) (hq : StrsAt w b d q) (ha : a = none → c = 0) (hb : b = none → d = 0) (hl : p.length + q.length ≤ 50000) (hm : most ≤ 1000) :
    Calls Tryz.prog 37 #[.slice a p.length c, .slice b q.length d, .int .i64 most] w fun e w' => OnceS most w (onceL (p ++ q)) e w' ∧ New w w' := by
  obtain ⟨i0, hi, hz0, hz1, hz2⟩ := info_parts info_strM
  have N0 : Hid (New w (w.alloc (.cells #[.slice a p.length c, .slice b q.length d] 23))) := hid ((Mod.refl _ w).alloc _)
  have B0 := Blk.new w #[.slice a p.length c, .slice b q.length d] 23
  have HCC := hid (concS_any a b c d p q w.heap.size 2 _ (B0.cellv 0 rfl) (B0.cellv 1 rfl) (by omega) (by unfold maxLen; omega) (hp.new N0.out) (hq.new N0.out) ha hb hl)
  have hll : (p ++ q).length ≤ 50000 := by rw [List.length_append]; exact hl
  obtain ⟨L, hL⟩ : ∃ L, L = p ++ q := ⟨_, rfl⟩
  rw [← hL] at HCC hll ⊢
  clear B0 hp hq ha hb hL
  go_enter Tryz.func37, Tryz.ntmps37
  go_wp2_with fail
  refine HCC.out.mono ?_
  rintro e w1 ⟨v, rfl, ho, n1⟩
  have HSM := hid ho.small
  obtain ⟨av, cv, rfl, hat⟩ := OwnS.at' ho
  have HAT := hid hat
  have N1 := hid (N0.out.trans n1)
  have hc1 := hat.room; have hc2 := hat.cap
  unfold maxLen at hc2
  clear ho n1 hat
  go_wp2
  go_loopw [7, 15] (fun o i wr => ∃ k : Nat, i = .int .i64 k ∧ k ≤ L.length ∧ OwnS wr w1.heap.size o (onceL (L.take k)) ∧ New w1 wr) (fun _ i _ => L.length - (intOf i).toNat)
  case atStart => exact ⟨0, rfl, by omega, OwnS.nil _ _, Mod.refl _ _⟩
  case round =>
    obtain ⟨k, rfl, hk, ho, hn⟩ := hrel
    have HO := hid ho
    have HN := hid hn
    have hol := onceL_len (L.take k)
    rw [List.length_take] at hol
    by_cases hlt : k < L.length
    · obtain ⟨b1, o1, rfl, hb1, hcc⟩ := HAT.out.get (by omega)
      have g0 := hn.cellv (hcc k hlt)
      have hxs := HSM.out _ (List.getElem_mem hlt)
      obtain ⟨oa, oc, rfl, hoa⟩ := OwnS.at' ho
      have HCN := hid (contS_any oa oc _ L[k] wr hoa)
      cases hh : hasX L[k] (onceL (L.take k)) with
      | true =>
        have HNX := hid (once_yes hlt hh)
        rw [hh] at HCN
        obtain ⟨x, hx⟩ : ∃ x, x = L[k] := ⟨_, rfl⟩
        rw [← hx] at g0 HCN hxs
        clear hcc ho hn hoa hh hx
        go_wp2_with fail
        refine HCN.out.mono ?_
        rintro e w2 ⟨rfl, n2⟩
        have HO2 := hid (HO.out.new n2)
        have N2 := hid (HN.out.trans n2)
        clear n2
        go_wp2
        exact ⟨⟨k + 1, by simp, by omega, by rw [HNX.out]; exact HO2.out, N2.out⟩, by simp [intOf]; omega⟩
      | false =>
        have HNX := hid (once_new hlt hh)
        rw [hh] at HCN
        obtain ⟨x, hx⟩ : ∃ x, x = L[k] := ⟨_, rfl⟩
        rw [← hx] at g0 HCN HNX hxs
        obtain ⟨O, hO⟩ : ∃ O, O = onceL (L.take k) := ⟨_, rfl⟩
        rw [← hO] at HO HNX HCN hol ⊢
        clear hcc ho hn hoa hh hx hO
        go_wp2_with fail
        refine HCN.out.mono ?_
        rintro e w2 ⟨rfl, n2⟩
        have HO2 := hid (HO.out.new n2)
        have N2 := hid (HN.out.trans n2)
        clear n2
        go_wp2_with (first | (at_builtin; refine wpList_append_own_at _ rfl _ _ 23 rfl w1.heap.size 9 i0 _ 1 16 Tryz.underlying23 hi hz0 hz1 hz2 rfl (by decide) (.slice oa O.length oc) O.length (O.map Value.string) rfl ?zow ⟨w2.heap.size, 0, none⟩ 1 1 [.string x] rfl rfl ?zhn ?zh1 ?zh63 ?zhby ?zhba ?_) | fail)
        case zow => exact (HO2.out.new ((Mod.refl _ _).alloc _)).row
        try case zhn => exact cell_one_new _ _ _
        try case zh1 => first | rfl | (intro u hu; simp at hu; subst hu; rfl)
        case zh63 => unfold maxLen; omega
        case zhby => omega
        case zhba => have := N2.out.size; simp; omega
        intro o' w' r' g' _ hat
        have H2 := hid (ownS_of HO2.out.small hxs r')
        have NN := hid (newGrown (N2.out.alloc (.cells #[.string x] 9)) g' (fun j hj => (HO2.out.block hj).1))
        clear r' g' hat
        go_wp2
        exact ⟨⟨k + 1, by simp, by omega, by rw [HNX.out]; exact H2.out, NN.out⟩, by simp [intOf]; omega⟩
    · have hkk : L.take k = L := List.take_of_length_le (by omega)
      rw [hkk] at HO hol
      obtain ⟨oa, oc, rfl, -⟩ := OwnS.at' HO.out
      have NF := hid (N1.out.trans HN.out)
      have HBS := hid N1.out.size
      clear hkk ho hn
      by_cases hmm : (onceL L).length ≤ most
      · have hmI : ((onceL L).length : Int) ≤ (most : Int) := by omega
        have HMM := hid hmm
        clear hmm
        go_wp2_with fail
        refine (need_yes 4 _).mono ?_
        rintro e w3 ⟨rfl, rfl⟩
        go_wp2
        go_ret
        exact ⟨.inl ⟨HMM.out, _, rfl, HO.out.base HBS.out⟩, NF.out⟩
      · have hmI : ¬ ((onceL L).length : Int) ≤ (most : Int) := by omega
        have HMM := hid (Nat.lt_of_not_le hmm)
        clear hmm
        go_wp2_with fail
        refine (need_no 4 _).mono ?_
        rintro e w3 ⟨rfl, rfl⟩
        go_wp2
        exact ⟨rfl, .inr ⟨HMM.out, rfl⟩, NF.out⟩
set_option maxRecDepth 100000 in
set_option maxHeartbeats 4000000 in
theorem onceA_any (a b : Option Addr) (c d : Nat) (p q : List AdrV) (most : Nat) (w : World) (hp : AdrsAt w a c p) (hq : AdrsAt w b d q) (ha : a = none → c = 0) (hb : b = none → d = 0) (hl : p.length + q.length ≤ 50000) (hm : most ≤ 1000) :
    Calls Tryz.prog 38 #[.slice a p.length c, .slice b q.length d, .int .i64 most] w fun e w' => OnceA most w (onceL (p ++ q)) e w' ∧ New w w' := by
  obtain ⟨i0, hi, hz0, hz1, hz2⟩ := info_parts info_adrM
  have N0 : Hid (New w (w.alloc (.cells #[.slice a p.length c, .slice b q.length d] 24))) := hid ((Mod.refl _ w).alloc _)
  have B0 := Blk.new w #[.slice a p.length c, .slice b q.length d] 24
  have HCC := hid (concA_any a b c d p q w.heap.size 2 _ (B0.cellv 0 rfl) (B0.cellv 1 rfl) (by omega) (by unfold maxLen; omega) (hp.new N0.out) (hq.new N0.out) ha hb hl)
  have hll : (p ++ q).length ≤ 50000 := by rw [List.length_append]; exact hl
  have hsm : ∀ x ∈ p ++ q, x.ip.size ≤ maxLen := fun x hx => by
    rcases List.mem_append.1 hx with e | e
    · exact hp.small x e
    · exact hq.small x e
  obtain ⟨L, hL⟩ : ∃ L, L = p ++ q := ⟨_, rfl⟩
  rw [← hL] at HCC hll hsm ⊢
  have HSM := hid hsm
  clear B0 hp hq ha hb hL hsm
  go_enter Tryz.func38, Tryz.ntmps38
  go_wp2_with fail
  refine HCC.out.mono ?_
  rintro e w1 ⟨v, rfl, ho, n1⟩
  obtain ⟨av, cv, rfl, hat⟩ := OwnA.at' ho HSM.out
  have HAT := hid hat
  have N1 := hid (N0.out.trans n1)
  have hc1 := hat.room; have hc2 := hat.cap
  unfold maxLen at hc2
  clear ho n1 hat
  go_wp2
  go_loopw [7, 15] (fun o i wr => ∃ k : Nat, i = .int .i64 k ∧ k ≤ L.length ∧ OwnA wr w1.heap.size o (onceL (L.take k)) ∧ New w1 wr) (fun _ i _ => L.length - (intOf i).toNat)
  case atStart => exact ⟨0, rfl, by omega, OwnA.nil _ _, Mod.refl _ _⟩
  case round =>
    obtain ⟨k, rfl, hk, ho, hn⟩ := hrel
    have HO := hid ho
    have HN := hid hn
    have hol := onceL_len (L.take k)
    rw [List.length_take] at hol
    have HSO := hid (fun x (hx : x ∈ onceL (L.take k)) => HSM.out x (List.mem_of_mem_take (mem_onceL.1 hx)))
    by_cases hlt : k < L.length
    · obtain ⟨b1, o1, rfl, hb1, hcc⟩ := HAT.out.get (by omega)
      obtain ⟨g0, g1, g2⟩ := hcc k hlt
      have g0 := hn.cellv g0; have g1 := hn.cellv g1; have g2 := hn.cellv g2
      obtain ⟨oa, oc, rfl, hoa⟩ := OwnA.at' ho HSO.out
      have HCN := hid (fun W (n : New wr W) => contA_any oa oc _ L[k] W (hoa.new n))
      cases hh : hasX L[k] (onceL (L.take k)) with
      | true =>
        have HNX := hid (once_yes hlt hh)
        rw [hh] at HCN
        obtain ⟨x, hx⟩ : ∃ x, x = L[k] := ⟨_, rfl⟩
        rw [← hx] at g0 g1 g2 HCN
        unfold adrVM at HCN
        clear hcc ho hn hoa hh hx
        go_wp2_with fail
        refine name_worldA (p := fun W => Calls _ _ _ W _) (fun W hW => ?_)
        have NWx : New wr W := by
          rw [hW]
          repeat (first | with_reducible exact Mod.refl _ wr | with_reducible refine Mod.alloc ?_ _ | with_reducible refine Mod.drew ?_ | with_reducible refine Mod.drewN ?_ _ | (with_reducible refine Mod.set ?_ _ _ (by first | exact .inl rfl | (right; omega) | (right; simp; done) | (right; simp; omega) | (left; omega) | (left; simp; done) | (left; simp; omega))) | (with_reducible refine Mod.putObj ?_ _ _ (by first | exact .inl rfl | (right; omega) | (right; simp; done) | (right; simp; omega) | (left; omega) | (left; simp; done) | (left; simp; omega))))
        have NW := hid NWx
        clear hW NWx
        refine (HCN.out _ NW.out).mono ?_
        rintro e w2 ⟨rfl, n2⟩
        have HO2 := hid (HO.out.new (NW.out.trans n2))
        have N2 := hid (HN.out.trans (NW.out.trans n2))
        clear n2
        go_wp2
        exact ⟨⟨k + 1, by simp, by omega, by rw [HNX.out]; exact HO2.out, N2.out⟩, by simp [intOf]; omega⟩
      | false =>
        have HNX := hid (once_new hlt hh)
        rw [hh] at HCN
        obtain ⟨x, hx⟩ : ∃ x, x = L[k] := ⟨_, rfl⟩
        rw [← hx] at g0 g1 g2 HCN HNX
        unfold adrVM at HCN
        obtain ⟨O, hO⟩ : ∃ O, O = onceL (L.take k) := ⟨_, rfl⟩
        rw [← hO] at HO HNX HCN hol ⊢
        clear hcc ho hn hoa hh hx hO
        go_wp2_with fail
        refine name_worldA (p := fun W => Calls _ _ _ W _) (fun W hW => ?_)
        have BWx : Blk W wr.heap.size #[.int .i64 x.fam, .string x.ip, .int .i64 x.port] 64 := by
          rw [hW]
          apply Blk.row
          · repeat (first | with_reducible exact hW | (with_reducible apply Blk.newAt; (simp; done)) | with_reducible apply Blk.alloc | with_reducible apply Blk.drew | with_reducible apply Blk.drewN | with_reducible apply Blk.set | (with_reducible apply Blk.other; · first | (simp; done) | (simp; omega) | omega) | (with_reducible apply Blk.putObj; · first | (simp; done) | (simp; omega) | omega))
          · rfl
        have NWx : New wr W := by
          rw [hW]
          repeat (first | with_reducible exact Mod.refl _ wr | with_reducible refine Mod.alloc ?_ _ | with_reducible refine Mod.drew ?_ | with_reducible refine Mod.drewN ?_ _ | (with_reducible refine Mod.set ?_ _ _ (by first | exact .inl rfl | (right; omega) | (right; simp; done) | (right; simp; omega) | (left; omega) | (left; simp; done) | (left; simp; omega))) | (with_reducible refine Mod.putObj ?_ _ _ (by first | exact .inl rfl | (right; omega) | (right; simp; done) | (right; simp; omega) | (left; omega) | (left; simp; done) | (left; simp; omega))))
        have NW := hid NWx; have BW := hid BWx
        clear hW NWx BWx
        refine (HCN.out _ NW.out).mono ?_
        rintro e w2 ⟨rfl, n2⟩
        have HO2 := hid (HO.out.new (NW.out.trans n2))
        have N2 := hid (HN.out.trans (NW.out.trans n2))
        have B2 := New.blk n2 BW.out
        have x0 := B2.cellv 0 rfl; have x1 := B2.cellv 1 rfl; have x2 := B2.cellv 2 rfl
        clear n2 B2
        go_wp2_with (first | (at_builtin; refine wpList_append_own_at _ rfl _ _ 24 rfl w1.heap.size 64 i0 _ 3 32 Tryz.underlying24 hi hz0 hz1 hz2 rfl (by decide) (.slice oa O.length oc) O.length (adrRow O) rfl ?zow ⟨w2.heap.size, 0, none⟩ 1 1 [.int .i64 x.fam, .string x.ip, .int .i64 x.port] rfl rfl ?zhn ?zh1 ?zh63 ?zhby ?zhba ?_) | fail)
        case zow => exact (HO2.out.new ((Mod.refl _ _).alloc _)).row
        case zhn => exact three_newM _ _ rfl _ _ _ _
        case zh1 => intro u hu; simp at hu; rcases hu with rfl | rfl | rfl <;> rfl
        case zh63 => unfold maxLen; omega
        case zhby => omega
        case zhba => have := N2.out.size; simp; omega
        intro o' w' r' g' _ hat
        have H2 := hid (ownA_of (x := x) r')
        have NN := hid (newGrown (N2.out.alloc (.cells #[.int .i64 x.fam, .string x.ip, .int .i64 x.port] 64)) g' (fun j hj => (HO2.out.block hj).1))
        clear r' g' hat
        go_wp2
        exact ⟨⟨k + 1, by simp, by omega, by rw [HNX.out]; exact H2.out, NN.out⟩, by simp [intOf]; omega⟩
    · have hkk : L.take k = L := List.take_of_length_le (by omega)
      rw [hkk] at HO hol HSO
      obtain ⟨oa, oc, rfl, -⟩ := OwnA.at' HO.out HSO.out
      have NF := hid (N1.out.trans HN.out)
      have HBS := hid N1.out.size
      clear hkk ho hn
      by_cases hmm : (onceL L).length ≤ most
      · have hmI : ((onceL L).length : Int) ≤ (most : Int) := by omega
        have HMM := hid hmm
        clear hmm
        go_wp2_with fail
        refine (need_yes 4 _).mono ?_
        rintro e w3 ⟨rfl, rfl⟩
        go_wp2
        go_ret
        exact ⟨.inl ⟨HMM.out, _, rfl, HO.out.base HBS.out⟩, NF.out⟩
      · have hmI : ¬ ((onceL L).length : Int) ≤ (most : Int) := by omega
        have HMM := hid (Nat.lt_of_not_le hmm)
        clear hmm
        go_wp2_with fail
        refine (need_no 4 _).mono ?_
        rintro e w3 ⟨rfl, rfl⟩
        go_wp2
        exact ⟨rfl, .inr ⟨HMM.out, rfl⟩, NF.out⟩
end Go.Proofs.YtbgmkplpolgebaaGreatDoor

namespace Go.Proofs.YtbgmkplpolgebaaGreatDoor
set_option linter.unusedSimpArgs false
set_option linter.unusedVariables false
open Go.RowKit Go.Shelf

theorem bits_or_u8 (a b : UInt8) : bits .or .u8 (a.toNat : Int) (b.toNat : Int) = ((a ||| b).toNat : Int) := by
  have ha := a.toNat_lt; have hb := b.toNat_lt
  have hx : a.toNat ||| b.toNat < 2 ^ 8 := Nat.or_lt_two_pow (by omega) (by omega)
  have h1 : (BitVec.ofInt 8 (a.toNat : Int)).toNat = a.toNat := by
    rw [BitVec.ofInt_natCast, BitVec.toNat_ofNat]; exact Nat.mod_eq_of_lt (by omega)
  have h2 : (BitVec.ofInt 8 (b.toNat : Int)).toNat = b.toNat := by
    rw [BitVec.ofInt_natCast, BitVec.toNat_ofNat]; exact Nat.mod_eq_of_lt (by omega)
  show IntKind.u8.wrap ((BitVec.ofInt 8 (a.toNat : Int) ||| BitVec.ofInt 8 (b.toNat : Int)).toNat : Int) = _
  rw [BitVec.toNat_or, h1, h2, UInt8.toNat_or, IntWalk.u8_in _ (by omega)]
theorem own_ne_by {w : World} {base n : Nat} {v : Value} {xs : List Value} {B : Nat} {s : List UInt8} (h : w.ownsRow base 120 2 v n xs) (hb : ByAt w B s) : v.ownBlock ≠ some B := by
  rcases h.2 with ⟨rfl, -⟩ | ⟨g, cap, cur, rfl, -, hg, -⟩
  · intro e; cases e
  · intro e
    injection e with e
    have e : g = B := e
    subst e
    obtain ⟨C, fr, h1, -⟩ := hb
    rw [hg] at h1
    injection h1 with h1
    injection h1 with h1 h2 h3
    exact absurd h2 (by decide)
def Opened2 (w : World) (base : Nat) (v : Value) (n : Nat) (s t : ByteArray) : Prop :=
  ∃ (G cap A ca B cb : Nat), v = .slice (some ⟨G, 0, none⟩) 2 cap ∧ 2 ≤ cap ∧ cap ≤ maxLen ∧ G < w.heap.size ∧ w.cell? ⟨G, 0, none⟩ = some (.int .i64 n) ∧ w.cell? ⟨G, 1, none⟩ = some (.slice (some ⟨A, 0, none⟩) s.size ca) ∧ w.cell? ⟨G, 2, none⟩ = some (.int .i64 n) ∧ w.cell? ⟨G, 3, none⟩ = some (.slice (some ⟨B, 0, none⟩) t.size cb) ∧ ByAt w A s.data.toList ∧ ByAt w B t.data.toList ∧ base ≤ A ∧ A < B ∧ G ≠ A ∧ base ≤ G
set_option maxRecDepth 100000 in
set_option maxHeartbeats 4000000 in
theorem bopen_two (n : Nat) (s t : ByteArray) (a c : Nat) (w : World) (h : FieldOf n s.data.toList) (k : FieldOf n t.data.toList) (hn : n ≤ 4096) (ha : w.cell? ⟨a, 0, none⟩ = some (.string s)) (hb : w.cell? ⟨a, 1, none⟩ = some (.string t)) (hc : 2 ≤ c) (hc2 : c ≤ maxLen) :
    Calls Tryz.prog 103 #[.int .i64 n, .slice (some ⟨a, 0, none⟩) 2 c] w fun e w' => ∃ v, e = .returned v ∧ Opened2 w' w.heap.size v n s t ∧ New w w' := by
  unfold maxLen at hc2
  have HWS := hid (fun W => bwrong_ok n s W h hn)
  have HWT := hid (fun W => bwrong_ok n t W k hn)
  have hlen : s.data.toList.length = s.size := by rw [Array.length_toList]; rfl
  have hlet : t.data.toList.length = t.size := by rw [Array.length_toList]; rfl
  have hl := h.len; have hlk := k.len
  rw [hlen] at hl
  rw [hlet] at hlk
  have hss : s.size ≤ 600 := by omega
  have hts : t.size ≤ 600 := by omega
  have hal := World.block_lt_of_cell? _ _ ha
  have HA := hid ha; have HB := hid hb
  obtain ⟨i0, hi, hz0, hz1, hz2⟩ := info_parts info_field
  have hd1 : decide ((n : Int) < 0) = false := decide_eq_false (by omega)
  have hd2 : decide (4096 < (n : Int)) = false := decide_eq_false (by omega)
  clear h k hlen hlet hl hlk ha hb
  go_enter Tryz.func103, Tryz.ntmps103
  go_wp2_with (first | (go_at_call 100; refine (bfail_pass _ _).mono ?_; rintro e w1 ⟨rfl, rfl⟩) | fail)
  go_loopw [5, 19] (fun v i wr => ∃ (k : Nat) (o : Value), o = v ∧ i = .int .i64 k ∧ New w wr ∧ ((k = 0 ∧ o = .slice none 0 0) ∨ (k = 1 ∧ ∃ A ca, wr.ownsRow w.heap.size 120 2 o 1 [.int .i64 n, .slice (some ⟨A, 0, none⟩) s.size ca] ∧ ByAt wr A s.data.toList ∧ w.heap.size ≤ A) ∨ (k = 2 ∧ ∃ A ca B cb, wr.ownsRow w.heap.size 120 2 o 2 [.int .i64 n, .slice (some ⟨A, 0, none⟩) s.size ca, .int .i64 n, .slice (some ⟨B, 0, none⟩) t.size cb] ∧ ByAt wr A s.data.toList ∧ ByAt wr B t.data.toList ∧ w.heap.size ≤ A ∧ A < B))) (fun _ i _ => 2 - (intOf i).toNat)
  case atStart => exact ⟨0, _, rfl, rfl, Mod.refl _ _, .inl ⟨rfl, rfl⟩⟩
  case round =>
    obtain ⟨k, o, rfl, rfl, hn', ⟨rfl, rfl⟩ | ⟨rfl, A, ca, ho, hby, hA⟩ | ⟨rfl, A, ca, B, cb, ho, hby, hbt, hA, hAB⟩⟩ := hrel
    · have HN := hid hn'
      have gca := New.cellv hn' HA.out
      have cl : a < wr.heap.size := World.block_lt_of_cell? _ _ gca
      clear hn'
      go_wp2_with fail
      refine (HWS.out _).mono ?_
      rintro e w1 ⟨rfl, n1⟩
      have N1 := hid (HN.out.trans n1)
      clear n1
      have hcv := bytes_of w1 s
      obtain ⟨cap, hcap⟩ : ∃ cap, cap = grownCap w1 s.size 0 5 := ⟨_, rfl⟩
      rw [← hcap] at hcv
      have HBY := hid (bytes_lie w1 s rfl)
      have HBN := hid (N1.out.trans (bytes_new w1 s))
      obtain ⟨W, hW⟩ : ∃ W, W = afterBytes w1 s := ⟨_, rfl⟩
      rw [← hW] at hcv HBY HBN
      have hWs : W.heap.size = w1.heap.size + 1 := by rw [hW]; simp
      clear hW hcap
      go_wp2_with (first | (go_at_call 100; refine (bfail_pass _ _).mono ?_; rintro e w1 ⟨rfl, rfl⟩) | (at_builtin; refine wpList_append_own_at _ rfl _ _ 126 rfl w.heap.size 120 i0 _ 2 32 Tryz.underlying126 hi hz0 hz1 hz2 rfl (by decide) (.slice none 0 0) 0 [] rfl ?ow ⟨w1.heap.size + 1, 0, none⟩ 1 1 [.int .i64 n, .slice (some ⟨w1.heap.size, 0, none⟩) s.size cap] rfl rfl ?hn ?h1 ?h63 ?hby ?hba ?_) | fail)
      case ow => exact World.ownsRow_nil _ _ _ _
      case hn => exact two_new W _ _ _ hWs.symm
      case h1 => intro u hu; simp at hu; rcases hu with rfl | rfl <;> rfl
      case h63 => unfold maxLen; omega
      case hby => omega
      case hba => have := HBN.out.size; simp; omega
      intro o4 w4 r4 g4 hne _
      have HN4 : Hid (New w w4) := hid (newGrown (HBN.out.alloc _) g4 (fun j hj => by cases hj))
      have H4 := hid (show w4.ownsRow w.heap.size 120 2 o4 1 [.int .i64 n, .slice (some ⟨w1.heap.size, 0, none⟩) s.size cap] from r4)
      have hby := (HBY.out.new ((Mod.refl _ _).alloc (.cells #[.int .i64 n, .slice (some ⟨w1.heap.size, 0, none⟩) s.size cap] 120)))
      have BY4 := hid (hby.of_heap (g4.block _ hby.lt (fun q => by cases q)))
      clear r4 g4 hby
      go_wp2
      exact ⟨⟨1, _, rfl, by simp, HN4.out, .inr (.inl ⟨rfl, _, _, H4.out, BY4.out, N1.out.size⟩)⟩, by simp [intOf]⟩
    · have HN := hid hn'
      have HO := hid ho; have HBA := hid hby
      have gca := New.cellv hn' HB.out
      have cl : a < wr.heap.size := World.block_lt_of_cell? _ _ gca
      obtain ⟨va, vc, hvf⟩ : ∃ va vc, o = Value.slice va 1 vc := by
        rcases ho.2 with ⟨-, q⟩ | ⟨g, cap, cur, q, -⟩
        · cases q
        · exact ⟨_, _, q⟩
      subst hvf
      clear hn' ho hby
      go_wp2_with fail
      refine (HWT.out _).mono ?_
      rintro e w1 ⟨rfl, n1⟩
      have N1 := hid (HN.out.trans n1)
      have O1 := hid (rowMod HO.out n1 (fun _ _ q => q)); have BA1 := hid (HBA.out.new n1)
      have hAl : A < w1.heap.size := (HBA.out.new n1).lt
      clear n1
      have hcv := bytes_of w1 t
      obtain ⟨cap, hcap⟩ : ∃ cap, cap = grownCap w1 t.size 0 5 := ⟨_, rfl⟩
      rw [← hcap] at hcv
      have HBY := hid (bytes_lie w1 t rfl)
      have NB := hid (bytes_new w1 t)
      have HBN := hid (N1.out.trans (bytes_new w1 t))
      obtain ⟨W, hW⟩ : ∃ W, W = afterBytes w1 t := ⟨_, rfl⟩
      rw [← hW] at hcv HBY HBN NB
      have hWs : W.heap.size = w1.heap.size + 1 := by rw [hW]; simp
      clear hW hcap
      have O2 := hid (rowMod O1.out (NB.out.alloc (.cells #[.int .i64 n, .slice (some ⟨w1.heap.size, 0, none⟩) t.size cap] 120)) (fun _ _ q => q))
      go_wp2_with (first | (go_at_call 100; refine (bfail_pass _ _).mono ?_; rintro e w1 ⟨rfl, rfl⟩) | (at_builtin; refine wpList_append_own_at _ rfl _ _ 126 rfl w.heap.size 120 i0 _ 2 32 Tryz.underlying126 hi hz0 hz1 hz2 rfl (by decide) (.slice va 1 vc) 1 [.int .i64 n, .slice (some ⟨A, 0, none⟩) s.size ca] rfl ?yow ⟨w1.heap.size + 1, 0, none⟩ 1 1 [.int .i64 n, .slice (some ⟨w1.heap.size, 0, none⟩) t.size cap] rfl rfl ?yhn ?yh1 ?yh63 ?yhby ?yhba ?_) | fail)
      case yow => exact O2.out
      case yhn => exact two_new W _ _ _ hWs.symm
      case yh1 => intro u hu; simp at hu; rcases hu with rfl | rfl <;> rfl
      case yh63 => unfold maxLen; omega
      case yhby => omega
      case yhba => have := HBN.out.size; simp; omega
      intro o4 w4 r4 g4 hne _
      have HN4 : Hid (New w w4) := hid (newGrown (HBN.out.alloc _) g4 (fun j hj => (rowBlock O2.out hj).1))
      have H4 := hid (show w4.ownsRow w.heap.size 120 2 o4 2 [.int .i64 n, .slice (some ⟨A, 0, none⟩) s.size ca, .int .i64 n, .slice (some ⟨w1.heap.size, 0, none⟩) t.size cap] from r4)
      have hby := (HBY.out.new ((Mod.refl _ _).alloc (.cells #[.int .i64 n, .slice (some ⟨w1.heap.size, 0, none⟩) t.size cap] 120)))
      have hba := (BA1.out.new (NB.out.alloc (.cells #[.int .i64 n, .slice (some ⟨w1.heap.size, 0, none⟩) t.size cap] 120)))
      have BY4 := hid (hby.of_heap (g4.block _ hby.lt (fun q => own_ne_by O2.out hby q.symm)))
      have BA4 := hid (hba.of_heap (g4.block _ hba.lt (fun q => own_ne_by O2.out hba q.symm)))
      clear r4 g4 hby hba
      go_wp2
      exact ⟨⟨2, _, rfl, by simp, HN4.out, .inr (.inr ⟨rfl, _, _, _, _, H4.out, BA4.out, BY4.out, hA, hAl⟩)⟩, by simp [intOf]⟩
    · have HN := hid hn'
      have HOP : Hid (Opened2 wr w.heap.size o n s t) := hid (by
        rcases ho.2 with ⟨-, q⟩ | ⟨G, cap, cur, rfl, hbg, hg, hnc, hcm, hcs, htake⟩
        · cases q
        · have hb : Blk wr G cur 120 := hg
          have hc' : ∀ (j : Nat) (u : Value), [Value.int .i64 n, Value.slice (some ⟨A, 0, none⟩) s.size ca, Value.int .i64 n, Value.slice (some ⟨B, 0, none⟩) t.size cb][j]? = some u → wr.cell? ⟨G, j, none⟩ = some u := by
            intro j u hu
            have h1 := World.ownsRow.cells (g := G) ho rfl j u hu
            have hadd : ∀ k, (⟨G, 0, none⟩ : Addr).add k = ⟨G, 0 + k, none⟩ := fun k => by unfold Addr.add; split <;> simp_all
            rw [hadd, Nat.zero_add] at h1
            exact h1
          refine ⟨G, cap, A, ca, B, cb, rfl, hnc, hcm, hb.lt, hc' 0 _ rfl, hc' 1 _ rfl, hc' 2 _ rfl, hc' 3 _ rfl, hby, hbt, hA, hAB, fun q => own_ne_by ho hby (by rw [← q]; rfl), hbg⟩)
      clear ho hby hbt hn'
      go_wp2
      go_ret
      exact ⟨_, rfl, HOP.out, HN.out⟩
theorem bor_any (a b : UInt8) (w : World) : Calls Tryz.prog 174 #[.int .u8 (a.toNat : Int), .int .u8 (b.toNat : Int)] w fun e w' => e = .returned (.int .u8 ((a ||| b).toNat : Int)) ∧ w = w' := by
  have hb := bits_or_u8 a b
  go_enter Tryz.func174, Tryz.ntmps174
  go_wp2
  go_ret
  exact ⟨by simp [hb], rfl⟩
abbrev waysV : Value := .agg #[.func (.func 173) #[] #[], .func (.func 174) #[] #[], .func (.func 175) #[] #[]]
theorem ways_at (w : World) : (Instr.index 175 waysV (.int .i64 1)).run Tryz.prog w = .ok (.func (.func 174) #[] #[]) w := by kernel_rfl
set_option maxRecDepth 100000 in
set_option maxHeartbeats 2000000 in
theorem ways_any (w : World) : Calls Tryz.prog 146 #[] w fun e w' => e = .returned waysV ∧ New w w' := by
  go_enter Tryz.func146, Tryz.ntmps146
  go_wp2
  refine name_worldZ (p := fun W => bodyPost _ _ _ _ _ W) (fun W6 hW6 => ?_)
  have B2 : Blk W6 w.heap.size #[.func (.func 173) #[] #[], .func (.func 174) #[] #[], .func (.func 175) #[] #[]] 175 := by
    rw [hW6]
    apply Blk.row
    · repeat (first | with_reducible exact hW6 | (with_reducible apply Blk.newAt; (simp; done)) | with_reducible apply Blk.alloc | with_reducible apply Blk.drew | with_reducible apply Blk.drewN | with_reducible apply Blk.set | (with_reducible apply Blk.other; · first | (simp; done) | (simp; omega) | omega) | (with_reducible apply Blk.putObj; · first | (simp; done) | (simp; omega) | omega))
    · rfl
  have N6 : New w W6 := by
    rw [hW6]
    repeat (first | with_reducible exact Mod.refl _ w | with_reducible refine Mod.alloc ?_ _ | with_reducible refine Mod.drew ?_ | with_reducible refine Mod.drewN ?_ _ | (with_reducible refine Mod.set ?_ _ _ (by first | exact .inl rfl | (right; omega) | (right; simp; done) | (right; simp; omega) | (left; omega) | (left; simp; done) | (left; simp; omega))) | (with_reducible refine Mod.putObj ?_ _ _ (by first | exact .inl rfl | (right; omega) | (right; simp; done) | (right; simp; omega) | (left; omega) | (left; simp; done) | (left; simp; omega))))
  clear hW6
  exact bodyPost_ret (results_cell_row rfl _ _ w.heap.size _ _ (0, 0) _ rfl B2 Tryz.underlying175 rfl (by kernel_rfl)) rfl ⟨rfl, N6⟩
end Go.Proofs.YtbgmkplpolgebaaGreatDoor
