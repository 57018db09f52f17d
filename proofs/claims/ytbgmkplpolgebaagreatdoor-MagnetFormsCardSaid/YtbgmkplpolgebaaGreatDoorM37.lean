/-
  Several texts in one, in their build order. Two magnets put together (package magnet: Join): what the walk holds. Plain facts on worlds. Conditions as told. A magnet's text, told in plain words; what is read of it is the magnet. Plain Lean, no program. No condition.
-/
import Derived.Test.YtbgmkplpolgebaaGreatDoorM33
import Derived.Test.YtbgmkplpolgebaaGreatDoorM34
import Derived.Test.YtbgmkplpolgebaaGreatDoorM35
import Derived.Test.YtbgmkplpolgebaaGreatDoorM36
import Derived.Test.YtbgmkplpolgebaaGreatDoorM30
import Derived.Test.YtbgmkplpolgebaaGreatDoorM22
import Derived.Test.YtbgmkplpolgebaaGreatDoorM32
import Derived.Test.YtbgmkplpolgebaaGreatDoorM21
namespace Go.Proofs.YtbgmkplpolgebaaGreatDoor
set_option linter.unusedSimpArgs false
set_option linter.unusedVariables false
open Go.RowKit Go.Shelf

theorem OwnS.at4 {w : World} {base : Nat} {v : Value} {l : List ByteArray} (h : OwnS w base v l) : ∃ a c, v = .slice a l.length c ∧ StrsAt w a c l ∧ (a = none → c = 0) := by
  obtain ⟨a, c, rfl, hat⟩ := OwnS.at' h
  refine ⟨a, c, rfl, hat, fun e => ?_⟩
  subst e
  rcases h.row.2 with ⟨q, -⟩ | ⟨g, cap, cur, q, -⟩
  · injection q
  · cases q
theorem OwnA.at4 {w : World} {base : Nat} {v : Value} {l : List AdrV} (h : OwnA w base v l) (hs : ∀ x ∈ l, x.ip.size ≤ maxLen) : ∃ a c, v = .slice a l.length c ∧ AdrsAt w a c l ∧ (a = none → c = 0) := by
  obtain ⟨a, c, rfl, hat⟩ := OwnA.at' h hs
  refine ⟨a, c, rfl, hat, fun e => ?_⟩
  subst e
  rcases h.row.2 with ⟨q, -⟩ | ⟨g, cap, cur, q, -⟩
  · injection q
  · cases q
/-- Lists that are nil have no room. -/
structure Tidy (p : MgP) : Prop where
  tr : p.ta = none → p.tc = 0
  pe : p.pa = none → p.pc = 0
  ws : p.sa = none → p.sc = 0
/-- Where the walk of Join stands. -/
structure JS (w0 W : World) (a b : MgV) (p q : MgP) (C O : Nat) (cm : Bool) (o : Array Value) : Prop where
  bA : Blk W w0.heap.size (magRow a p) 27
  bB : Blk W (w0.heap.size + 1) (magRow b q) 27
  bM : Blk W (w0.heap.size + 1 + 1) zeroMg 27
  bE : Blk W (w0.heap.size + 1 + 1 + 1) #[.int .i64 0] 28
  bC : Blk W C #[.bool cm] 4
  bO : Blk W O o 27
  hC : w0.heap.size + 4 ≤ C
  hO : C < O
  new : New w0 W
theorem JS.next {w0 W W' : World} {a b : MgV} {p q : MgP} {C O : Nat} {cm : Bool} {o : Array Value} (h : JS w0 W a b p q C O cm o) (n : New W W') : JS w0 W' a b p q C O cm o :=
  ⟨New.blk n h.bA, New.blk n h.bB, New.blk n h.bM, New.blk n h.bE, New.blk n h.bC, New.blk n h.bO, h.hC, h.hO, h.new.trans n⟩
theorem JS.set {w0 W : World} {a b : MgV} {p q : MgP} {C O : Nat} {cm : Bool} {o : Array Value} (h : JS w0 W a b p q C O cm o) (i : Nat) (v : Value) : JS w0 (W.setCell ⟨O, i, none⟩ v) a b p q C O cm (o.setIfInBounds i v) := by
  have m : Mod (fun j => j = O) W (W.setCell ⟨O, i, none⟩ v) := (Mod.refl _ _).set _ _ (.inl rfl)
  have h1 := h.hC; have h2 := h.hO
  exact ⟨m.blk h.bA (by omega), m.blk h.bB (by omega), m.blk h.bM (by omega), m.blk h.bE (by omega), m.blk h.bC (by omega), h.bO.set i v, h.hC, h.hO, h.new.trans' m (fun j q1 q2 => by omega)⟩
theorem JS.common {w0 W W' : World} {a b : MgV} {p q : MgP} {C O : Nat} {cm c2 : Bool} {o : Array Value} (h : JS w0 W a b p q C O cm o) (hb : Blk W' C #[.bool c2] 4) (m : Mod (fun j => j = C) W W') : JS w0 W' a b p q C O c2 o := by
  have h1 := h.hC; have h2 := h.hO
  exact ⟨m.blk h.bA (by omega), m.blk h.bB (by omega), m.blk h.bM (by omega), m.blk h.bE (by omega), hb, m.blk h.bO (by omega), h.hC, h.hO, h.new.trans' m (fun j q1 q2 => by omega)⟩
theorem JS.held {w0 W : World} {a b : MgV} {p q : MgP} {C O : Nat} {cm : Bool} {o : Array Value} (h : JS w0 W a b p q C O cm o) :
    W.cell? ⟨w0.heap.size, 0, none⟩ = some (.string a.old) ∧ W.cell? ⟨w0.heap.size + 1, 0, none⟩ = some (.string b.old) ∧ W.cell? ⟨w0.heap.size, 1, none⟩ = some (.string a.new) ∧ W.cell? ⟨w0.heap.size + 1, 1, none⟩ = some (.string b.new) :=
  ⟨h.bA.cellv 0 rfl, h.bB.cellv 0 rfl, h.bA.cellv 1 rfl, h.bB.cellv 1 rfl⟩
theorem JS.drew {w0 W : World} {a b : MgV} {p q : MgP} {C O : Nat} {cm : Bool} {o : Array Value} (h : JS w0 W a b p q C O cm o) : JS w0 W.drew a b p q C O cm o := h.next (Mod.refl _ _).drew
theorem JS.row {w0 W : World} {a b : MgV} {p q : MgP} {C O : Nat} {cm : Bool} {o o' : Array Value} (h : JS w0 W a b p q C O cm o) (e : o = o') : JS w0 W a b p q C O cm o' := e ▸ h
/-- The lists that Join has made so far. -/
structure JL (W : World) (D : Nat) (vt vp vs vo : Value) (T : List ByteArray) (P : List AdrV) (S : List ByteArray) (O : List (Int × Int)) : Prop where
  t : OwnS W D vt T
  p : OwnA W D vp P
  s : OwnS W D vs S
  o : OwnR W D vo O
theorem JL.mod {W W' : World} {D : Nat} {vt vp vs vo : Value} {T : List ByteArray} {P : List AdrV} {S : List ByteArray} {O : List (Int × Int)} (h : JL W D vt vp vs vo T P S O) (m : Mod (fun j => j < D) W W') : JL W' D vt vp vs vo T P S O :=
  ⟨h.t.mod m (fun k q => by have := (h.t.block q).1; omega), h.p.mod m (fun k q => by have := (h.p.block q).1; omega), h.s.mod m (fun k q => by have := (h.s.block q).1; omega), h.o.mod m (fun k h1 h2 q => by omega)⟩
theorem JL.next {W W' : World} {D : Nat} {vt vp vs vo : Value} {T : List ByteArray} {P : List AdrV} {S : List ByteArray} {O : List (Int × Int)} (h : JL W D vt vp vs vo T P S O) (n : New W W') : JL W' D vt vp vs vo T P S O := h.mod (New.mod n)
theorem JL.zero (W : World) (D : Nat) : JL W D (.slice none 0 0) (.slice none 0 0) (.slice none 0 0) (.slice none 0 0) [] [] [] [] := ⟨OwnS.nil _ _, OwnA.nil _ _, OwnS.nil _ _, OwnR.nil _ _⟩
theorem JL.at' {W : World} {D : Nat} {vt vp vs vo : Value} {m : MgV} (h : JL W D vt vp vs vo m.tr m.pe m.ws m.on) (hs : ∀ x ∈ m.pe, x.ip.size ≤ maxLen) :
    ∃ p : MgP, (.agg #[.string m.old, .string m.new, .string m.name, vt, vp, vs, vo] : Value) = magVal m p ∧ MagAt W m p ∧ Tidy p := by
  obtain ⟨ta, tc, rfl, h1, g1⟩ := h.t.at4
  obtain ⟨pa, pc, rfl, h2, g2⟩ := h.p.at4 hs
  obtain ⟨sa, sc, rfl, h3, g3⟩ := h.s.at4
  obtain ⟨oa, oc, rfl, h4⟩ := h.o.at2
  exact ⟨⟨ta, tc, pa, pc, sa, sc, oa, oc⟩, rfl, ⟨h1, h2, h3, h4⟩, ⟨g1, g2, g3⟩⟩
end Go.Proofs.YtbgmkplpolgebaaGreatDoor

namespace Go.Proofs.YtbgmkplpolgebaaGreatDoor
set_option linter.unusedSimpArgs false
set_option linter.unusedVariables false

/-- A part of a magnet's text. -/
def keyT (k : ByteArray) (v : List UInt8) : List UInt8 := k.data.toList ++ 61 :: v
def optT (x : ByteArray) (k : ByteArray) (v : List UInt8) : List (List UInt8) := if x.size = 0 then [] else [keyT k v]
def topsT (m : MgV) : List (List UInt8) := optT m.old pXt (uOld.data.toList ++ hexOf m.old.data.toList) ++ optT m.new pXt (uNew.data.toList ++ hexOf m.new.data.toList)
def namT (m : MgV) : List (List UInt8) := optT m.name pDn (eOf m.name.data.toList)
def listT (k : ByteArray) (l : List ByteArray) : List (List UInt8) := l.map (fun s => keyT k (eOf s.data.toList))
def peT (l : List AdrV) : List (List UInt8) := l.map (fun x => keyT pPe (eOf (atxt x)))
def onT (l : List (Int × Int)) : List (List UInt8) := if l = [] then [] else [keyT pSo (txtR l)]
def mgParts (m : MgV) : List (List UInt8) := topsT m ++ namT m ++ listT pTr m.tr ++ listT pWs m.ws ++ peT m.pe ++ onT m.on
def magT (m : MgV) : List UInt8 := kHead ++ Lib.join (mgParts m) [38]

/-! What bytes the values hold. -/
theorem upD_free : ∀ n, n < 16 → upD n ≠ 38 := by decide +kernel
theorem plain_38 : plainE 38 = false := by decide
theorem eB_free (b : UInt8) : (38 : UInt8) ∉ eB b := by
  have hb := b.toNat_lt
  unfold eB
  split
  · next h =>
    intro q
    simp only [List.mem_singleton] at q
    subst q
    rw [plain_38] at h
    cases h
  · intro q
    simp only [List.mem_cons, List.not_mem_nil, or_false] at q
    rcases q with q | q | q
    · revert q; decide
    · exact upD_free _ (by omega) q.symm
    · exact upD_free _ (by omega) q.symm
theorem eOf_free (l : List UInt8) : (38 : UInt8) ∉ eOf l := by
  intro q
  unfold eOf at q
  obtain ⟨b, -, h⟩ := List.mem_flatMap.1 q
  exact eB_free b h
theorem low_free : ∀ n, n < 16 → hexLow n ≠ 38 ∧ lowC (hexLow n) = hexLow n := by decide +kernel
theorem hexOf_free (l : List UInt8) : (38 : UInt8) ∉ hexOf l := by
  intro q
  unfold hexOf at q
  obtain ⟨b, -, h⟩ := List.mem_flatMap.1 q
  have hb := b.toNat_lt
  simp only [List.mem_cons, List.not_mem_nil, or_false] at h
  rcases h with h | h
  · exact (low_free _ (by omega)).1 h.symm
  · exact (low_free _ (by omega)).1 h.symm
theorem hexOf_low : ∀ l : List UInt8, (hexOf l).map lowC = hexOf l
  | [] => rfl
  | b :: l => by
    have hb := b.toNat_lt
    have e : hexOf (b :: l) = hexLow (b.toNat / 16) :: hexLow (b.toNat % 16) :: hexOf l := rfl
    rw [e, List.map_cons, List.map_cons, hexOf_low l, (low_free _ (by omega)).2, (low_free _ (by omega)).2]
theorem hexC_hex (l : List UInt8) : hexC (hexOf l) = some l := by
  unfold hexC
  rw [hexOf_low, unhex_hex]
theorem hexOf_len : ∀ l : List UInt8, (hexOf l).length = 2 * l.length
  | [] => rfl
  | b :: l => by
    have e : hexOf (b :: l) = hexLow (b.toNat / 16) :: hexLow (b.toNat % 16) :: hexOf l := rfl
    rw [e, List.length_cons, List.length_cons, List.length_cons, hexOf_len l]
    omega
theorem itoa_free {c : UInt8} (h : isDig c = false) {z : Int} (hz : 0 ≤ z) : c ∉ Lib.itoa z := by
  obtain ⟨n, rfl⟩ := Int.eq_ofNat_of_zero_le hz
  rw [itoa_nat]
  exact dec_free h n
theorem pieceT_free {c : UInt8} (h : isDig c = false) (h45 : c ≠ 45) {r : Int × Int} (h0 : 0 ≤ r.1) (h1 : 1 ≤ r.2) : c ∉ pieceT r := by
  unfold pieceT
  intro q
  rcases List.mem_append.1 q with q | q
  · exact itoa_free h h0 q
  · split at q
    · rcases List.mem_cons.1 q with q | q
      · exact h45 q
      · exact itoa_free h (by omega) q
    · cases q
theorem txtR_free {c : UInt8} (h : isDig c = false) (h45 : c ≠ 45) (h44 : c ≠ 44) {R : List (Int × Int)} (hR : ∀ r ∈ R, 0 ≤ r.1 ∧ 1 ≤ r.2) : c ∉ txtR R := by
  intro q
  unfold txtR at q
  rcases mem_joinC q with q | ⟨x, hx, q⟩
  · exact h44 q
  · obtain ⟨r, hr, rfl⟩ := List.mem_map.1 hx
    exact pieceT_free h h45 (hR r hr).1 (hR r hr).2 q
theorem natP_itoa {z : Int} (h : 0 ≤ z) : natP (Lib.itoa z) = some z.toNat := by
  obtain ⟨n, rfl⟩ := Int.eq_ofNat_of_zero_le h
  rw [itoa_nat]
  exact natP_iff.2 rfl
theorem partP_piece {r : Int × Int} (h0 : 0 ≤ r.1) (h1 : 1 ≤ r.2) (h2 : r.1 + r.2 ≤ 4097) : partP (pieceT r) = some r := by
  have f45 : ∀ z : Int, 0 ≤ z → (45 : UInt8) ∉ Lib.itoa z := fun z hz => itoa_free (by decide) hz
  obtain ⟨a, c⟩ := r
  simp only at h0 h1 h2
  unfold pieceT partP runP
  simp only
  by_cases hc : 1 < c
  · rw [if_pos hc, cutB_app _ _ (f45 a h0)]
    simp only [if_true]
    rw [natP_itoa h0, natP_itoa (by omega)]
    simp only
    rw [if_neg (by omega)]
    simp only [Option.some.injEq, Prod.mk.injEq]
    omega
  · rw [if_neg hc, List.append_nil, cutB_free _ (f45 a h0)]
    simp only [Bool.false_eq_true, if_false]
    rw [natP_itoa h0]
    simp only
    rw [if_neg (by omega)]
    simp only [Option.some.injEq, Prod.mk.injEq]
    omega
theorem partsP_pieces : ∀ (R : List (Int × Int)), (∀ r ∈ R, 0 ≤ r.1 ∧ 1 ≤ r.2 ∧ r.1 + r.2 ≤ 4097) → partsP (R.map pieceT) = some R
  | [], _ => rfl
  | r :: R, h => by
    obtain ⟨h1, h2, h3⟩ := h r (by simp)
    rw [List.map_cons]
    simp only [partsP]
    rw [partP_piece h1 h2 h3, partsP_pieces R (fun x hx => h x (by simp [hx]))]
theorem pieceT_ne {r : Int × Int} (h0 : 0 ≤ r.1) : pieceT r ≠ [] := by
  intro q
  unfold pieceT at q
  have q2 := (List.append_eq_nil_iff.1 q).1
  have := natP_itoa h0
  rw [q2] at this
  cases this
theorem txtR_ne {R : List (Int × Int)} (h : R ≠ []) (hR : ∀ r ∈ R, 0 ≤ r.1) : txtR R ≠ [] := by
  cases R with
  | nil => exact absurd rfl h
  | cons r R =>
    intro q
    unfold txtR at q
    rw [List.map_cons, Lib.join_cons] at q
    have := (List.append_eq_nil_iff.1 q).1
    exact pieceT_ne (hR r (by simp)) this
theorem bitsP_txt {S : List UInt8} (h : FieldOf 40 S) : bitsP 40 (txtR (runsF 40 S)) = some S := by
  by_cases hz : runsF 40 S = []
  · have : txtR (runsF 40 S) = [] := by rw [hz]; rfl
    refine bitsP_yes (R := []) (by rw [this]; rfl) ?_ rfl
    have := frR_runs h
    rw [hz] at this
    exact this
  · have hg := (runs_good (n := 40) (numsL 40 S) (fun i hi => numsL_lt hi)).1
    have hR : ∀ r ∈ runsF 40 S, 0 ≤ r.1 ∧ 1 ≤ r.2 ∧ r.1 + r.2 ≤ 4097 := fun r hr => by have := hg r hr; omega
    refine bitsP_yes (R := runsF 40 S) ?_ (frR_runs h) rfl
    unfold partsS
    rw [if_neg (txtR_ne hz (fun r hr => (hR r hr).1))]
    unfold txtR
    rw [pieces_joinC (by simpa using hz)]
    · exact partsP_pieces _ hR
    · intro y hy
      obtain ⟨r, hr, rfl⟩ := List.mem_map.1 hy
      exact pieceT_free (by decide) (by decide) (hR r hr).1 (hR r hr).2.1
theorem rep2_free : ∀ (s : List UInt8), (37 : UInt8) ∉ s → rep2 s = s
  | [], _ => rfl
  | [x], _ => rfl
  | [x, y], _ => rfl
  | x :: y :: z :: r, h => by
    have hx : x ≠ 37 := fun e => h (by rw [e]; simp)
    rw [rep2, if_neg (fun q => hx q.1), rep2_free (y :: z :: r) (fun q => h (List.mem_cons_of_mem _ q))]

/-! What each part is read as. -/
theorem pieceM_key {m : MgV} {k : ByteArray} {v : List UInt8} (h : (61 : UInt8) ∉ k.data.toList) : pieceM m (keyT k v) = partM m k.data.toList v := by
  unfold pieceM keyT
  rw [cutB_app _ _ h]
  rfl
theorem emptyB {x : ByteArray} (h : x.size = 0) : x.toList = [] := by
  obtain ⟨⟨l⟩⟩ := x
  cases l with
  | nil => exact (by decide +kernel : (⟨#[]⟩ : ByteArray).toList = [])
  | cons b l => simp [ByteArray.size] at h
theorem hasPre (a b : List UInt8) : Lib.hasPrefix (a ++ b) a = true := by
  unfold Lib.hasPrefix
  rw [List.isPrefixOf_iff_prefix]
  exact List.prefix_append a b
theorem size_data (x : ByteArray) : x.data.toList.length = x.size := by rw [Array.length_toList]; rfl
theorem topM_old {m : MgV} {o : ByteArray} (h : m.old.size = 0) (ho : o.size = 20) : topM m (mkB (uOld.data.toList ++ hexOf o.data.toList)) = .ok { m with old := o } := by
  have hl : (mkB (uOld.data.toList ++ hexOf o.data.toList)).data.toList = uOld.data.toList ++ hexOf o.data.toList := rfl
  have h1 : isU uOld (mkB (uOld.data.toList ++ hexOf o.data.toList)) = true := by unfold isU; rw [hl]; exact hasPre _ _
  have h2 : digU uOld (mkB (uOld.data.toList ++ hexOf o.data.toList)) = mkB (hexOf o.data.toList) := by
    unfold isU at h1
    unfold digU Lib.trimPrefix
    rw [hl] at h1 ⊢
    rw [if_pos h1, List.drop_left]
    rfl
  have h3 : isU uNew (mkB (uOld.data.toList ++ hexOf o.data.toList)) = false := by
    unfold isU
    rw [hl]
    rfl
  have h4 : (mkB (hexOf o.data.toList)).size = 40 := by
    rw [show (mkB (hexOf o.data.toList)).size = (hexOf o.data.toList).length by simp [mkB, ByteArray.size], hexOf_len, size_data]
    omega
  have t1 : tO (rdZero m) (mkB (uOld.data.toList ++ hexOf o.data.toList)) = .ok { rdZero m with old := o } := by
    unfold tO
    rw [if_pos h1, h2, if_neg (by rw [h4]; simp), show (mkB (hexOf o.data.toList)).data.toList = hexOf o.data.toList from rfl, hexC_hex]
    simp only
    rw [if_neg (by rw [show (rdZero m).old = m.old from rfl, emptyB h]; simp), show (⟨o.data.toList.toArray⟩ : ByteArray) = o from data_mkB o]
  unfold topM topicR
  rw [t1]
  simp only
  unfold tN
  rw [if_neg (by rw [h3]; decide)]
  rfl
theorem topM_new {m : MgV} {o : ByteArray} (h : m.new.size = 0) (ho : o.size = 32) : topM m (mkB (uNew.data.toList ++ hexOf o.data.toList)) = .ok { m with new := o } := by
  have hl : (mkB (uNew.data.toList ++ hexOf o.data.toList)).data.toList = uNew.data.toList ++ hexOf o.data.toList := rfl
  have h1 : isU uNew (mkB (uNew.data.toList ++ hexOf o.data.toList)) = true := by unfold isU; rw [hl]; exact hasPre _ _
  have h2 : digU uNew (mkB (uNew.data.toList ++ hexOf o.data.toList)) = mkB (hexOf o.data.toList) := by
    unfold isU at h1
    unfold digU Lib.trimPrefix
    rw [hl] at h1 ⊢
    rw [if_pos h1, List.drop_left]
    rfl
  have h3 : isU uOld (mkB (uNew.data.toList ++ hexOf o.data.toList)) = false := by
    unfold isU
    rw [hl]
    rfl
  have h4 : (mkB (hexOf o.data.toList)).size = 64 := by
    rw [show (mkB (hexOf o.data.toList)).size = (hexOf o.data.toList).length by simp [mkB, ByteArray.size], hexOf_len, size_data]
    omega
  have t1 : tO (rdZero m) (mkB (uNew.data.toList ++ hexOf o.data.toList)) = .ok (rdZero m) := by
    unfold tO
    rw [if_neg (by rw [h3]; decide)]
  unfold topM topicR
  rw [t1]
  simp only
  unfold tN
  rw [if_pos h1, h2, if_neg (by rw [h4]; simp), show (mkB (hexOf o.data.toList)).data.toList = hexOf o.data.toList from rfl, hexC_hex]
  simp only
  rw [if_neg (by rw [show (rdZero m).new = m.new from rfl, emptyB h]; simp), show (⟨o.data.toList.toArray⟩ : ByteArray) = o from data_mkB o]
  rfl
theorem nameM_esc {m : MgV} {x : ByteArray} (h : x.size ≤ 100) (hn : m.named = false) : nameM m (eOf x.data.toList) = .ok { m with name := x, named := true } := by
  unfold nameM
  rw [loose_eOf]
  simp only
  rw [if_neg (by rw [size_data]; omega), if_neg (by rw [hn]; decide), data_mkB]
theorem textP_esc {l : List ByteArray} {x : ByteArray} (h : textM x = true) (hl : l.length < 10) : textP l (eOf x.data.toList) = .ok (l ++ [x]) := by
  have hx : 1 ≤ x.size ∧ x.size ≤ 200 := by
    unfold textM at h
    simpa using h
  unfold textP
  rw [loose_eOf]
  simp only
  rw [if_neg (by
    rintro (q | q)
    · have := size_data x
      rw [q] at this
      simp at this
      omega
    · rw [size_data] at q
      omega), if_neg (by omega), data_mkB]
theorem fold_tr : ∀ (L : List ByteArray) (m : MgV), L.all textM = true → m.tr.length + L.length ≤ 10 → foldM m (listT pTr L) = .ok { m with tr := m.tr ++ L }
  | [], m, _, _ => by simp [listT, foldM]
  | x :: L, m, h, hl => by
    rw [List.all_cons, Bool.and_eq_true] at h
    rw [List.length_cons] at hl
    have hp : pieceM m (keyT pTr (eOf x.data.toList)) = .ok { m with tr := m.tr ++ [x] } := by
      rw [pieceM_key (by decide)]
      show trM m _ = _
      unfold trM
      rw [textP_esc h.1 (by omega)]
    show (match pieceM m (keyT pTr (eOf x.data.toList)) with | .error k => (.error k : Except Int MgV) | .ok m1 => foldM m1 (listT pTr L)) = _
    rw [hp]
    simp only
    rw [fold_tr L _ h.2 (by simp only [List.length_append, List.length_singleton]; omega)]
    simp
theorem fold_ws : ∀ (L : List ByteArray) (m : MgV), L.all textM = true → m.ws.length + L.length ≤ 10 → foldM m (listT pWs L) = .ok { m with ws := m.ws ++ L }
  | [], m, _, _ => by simp [listT, foldM]
  | x :: L, m, h, hl => by
    rw [List.all_cons, Bool.and_eq_true] at h
    rw [List.length_cons] at hl
    have hp : pieceM m (keyT pWs (eOf x.data.toList)) = .ok { m with ws := m.ws ++ [x] } := by
      rw [pieceM_key (by decide)]
      show wsM m _ = _
      unfold wsM
      rw [textP_esc h.1 (by omega)]
    show (match pieceM m (keyT pWs (eOf x.data.toList)) with | .error k => (.error k : Except Int MgV) | .ok m1 => foldM m1 (listT pWs L)) = _
    rw [hp]
    simp only
    rw [fold_ws L _ h.2 (by simp only [List.length_append, List.length_singleton]; omega)]
    simp
theorem fold_pe : ∀ (L : List AdrV) (m : MgV), L.all adrOk = true → m.pe.length + L.length ≤ 20 → foldM m (peT L) = .ok { m with pe := m.pe ++ L }
  | [], m, _, _ => by simp [peT, foldM]
  | x :: L, m, h, hl => by
    rw [List.all_cons, Bool.and_eq_true] at h
    rw [List.length_cons] at hl
    have hp : pieceM m (keyT pPe (eOf (atxt x))) = .ok { m with pe := m.pe ++ [x] } := by
      rw [pieceM_key (by decide)]
      show peM m _ = _
      unfold peM
      rw [loose_eOf]
      simp only
      rw [aP_txt h.1]
      simp only
      rw [if_neg (by omega)]
    show (match pieceM m (keyT pPe (eOf (atxt x))) with | .error k => (.error k : Except Int MgV) | .ok m1 => foldM m1 (peT L)) = _
    rw [hp]
    simp only
    rw [fold_pe L _ h.2 (by simp only [List.length_append, List.length_singleton]; omega)]
    simp
theorem eq_empty {x : ByteArray} (h : x.size = 0) : x = ⟨#[]⟩ := by
  obtain ⟨⟨l⟩⟩ := x
  cases l with
  | nil => rfl
  | cons b l => simp [ByteArray.size] at h
theorem fold_one {m m' : MgV} {p : List UInt8} (h : pieceM m p = .ok m') : foldM m [p] = .ok m' := by
  show (match pieceM m p with | .error k => (.error k : Except Int MgV) | .ok m1 => foldM m1 []) = _
  rw [h]
  rfl
theorem fold_od {m : MgV} {o : ByteArray} (h : m.old = ⟨#[]⟩) (ho : o.size = 0 ∨ o.size = 20) : foldM m (optT o pXt (uOld.data.toList ++ hexOf o.data.toList)) = .ok { m with old := o } := by
  unfold optT
  by_cases hz : o.size = 0
  · rw [if_pos hz, eq_empty hz, ← h]
    rfl
  · rw [if_neg hz]
    refine fold_one ?_
    rw [pieceM_key (by decide)]
    show topM m _ = _
    exact topM_old (by rw [h]; rfl) (by omega)
theorem fold_nw {m : MgV} {o : ByteArray} (h : m.new = ⟨#[]⟩) (ho : o.size = 0 ∨ o.size = 32) : foldM m (optT o pXt (uNew.data.toList ++ hexOf o.data.toList)) = .ok { m with new := o } := by
  unfold optT
  by_cases hz : o.size = 0
  · rw [if_pos hz, eq_empty hz, ← h]
    rfl
  · rw [if_neg hz]
    refine fold_one ?_
    rw [pieceM_key (by decide)]
    show topM m _ = _
    exact topM_new (by rw [h]; rfl) (by omega)
theorem fold_name {m : MgV} {x : ByteArray} (h : m.name = ⟨#[]⟩) (hn : m.named = false) (hx : x.size ≤ 100) : foldM m (optT x pDn (eOf x.data.toList)) = .ok { m with name := x, named := decide (x.size ≠ 0) } := by
  unfold optT
  by_cases hz : x.size = 0
  · have e : decide (x.size ≠ 0) = false := decide_eq_false (fun q => q hz)
    rw [if_pos hz, e, eq_empty hz, ← h, ← hn]
    rfl
  · rw [if_neg hz, decide_eq_true hz]
    refine fold_one ?_
    rw [pieceM_key (by decide)]
    show nameM m _ = _
    exact nameM_esc hx hn
theorem fold_on {m : MgV} {S : List UInt8} (h : m.on = []) (hn : m.only = false) (hS : FieldOf 40 S) : foldM m (onT (runsF 40 S)) = .ok { m with on := runsF 40 S, only := decide (runsF 40 S ≠ []) } := by
  unfold onT
  by_cases hz : runsF 40 S = []
  · have e : decide (runsF 40 S ≠ []) = false := decide_eq_false (fun q => q hz)
    rw [if_pos hz, e, hz, ← h, ← hn]
    rfl
  · rw [if_neg hz, decide_eq_true hz]
    refine fold_one ?_
    rw [pieceM_key (by decide)]
    show soM m _ = _
    have hg := (runs_good (n := 40) (numsL 40 S) (fun i hi => numsL_lt hi)).1
    have hR : ∀ r ∈ runsF 40 S, 0 ≤ r.1 ∧ 1 ≤ r.2 := fun r hr => by have := hg r hr; omega
    unfold soM
    rw [rep2_free _ (txtR_free (by decide) (by decide) (by decide) hR), bitsP_txt hS]
    simp only
    rw [if_neg (txtR_ne hz (fun r hr => (hR r hr).1)), if_neg (by rw [hn]; decide)]
/-- What is read of the parts. -/
theorem fold_parts {m : MgV} (h : VOk m) : foldM mg0 (mgParts m) = .ok { m with named := decide (m.name.size ≠ 0), only := decide (m.on ≠ []) } := by
  obtain ⟨S, hS, -, hms⟩ := onB_field h.on
  unfold mgParts topsT namT
  have l1 := h.trl; have l2 := h.wsl; have l3 := h.pel
  rw [foldM_app, foldM_app, foldM_app, foldM_app, foldM_app, foldM_app, fold_od rfl h.old]
  simp only
  rw [fold_nw rfl h.new]
  simp only
  rw [fold_name rfl rfl h.name]
  simp only
  rw [fold_tr _ _ h.tr (by simp only [mg0, List.length_nil]; omega)]
  simp only
  rw [fold_ws _ _ h.ws (by simp only [mg0, List.length_nil]; omega)]
  simp only
  rw [fold_pe _ _ h.pe (by simp only [mg0, List.length_nil]; omega)]
  simp only
  rw [hms, fold_on rfl rfl hS]
  simp only [mg0, List.nil_append]
/-! The text as a whole. -/
theorem keyT_free {k : ByteArray} {v : List UInt8} (h : (38 : UInt8) ∉ k.data.toList) (hv : (38 : UInt8) ∉ v) : (38 : UInt8) ∉ keyT k v := by
  unfold keyT
  intro q
  rcases List.mem_append.1 q with q | q
  · exact h q
  · rcases List.mem_cons.1 q with q | q
    · revert q; decide
    · exact hv q
theorem tops_free {p l : List UInt8} (h : (38 : UInt8) ∉ p) : (38 : UInt8) ∉ p ++ hexOf l := fun q => (List.mem_append.1 q).elim h (hexOf_free l)
theorem parts_free {m : MgV} (h : VOk m) : ∀ y ∈ mgParts m, (38 : UInt8) ∉ y := by
  obtain ⟨S, hS, -, hms⟩ := onB_field h.on
  have hg := (runs_good (n := 40) (numsL 40 S) (fun i hi => numsL_lt hi)).1
  intro y hy
  unfold mgParts topsT namT optT listT peT onT at hy
  simp only [List.mem_append, List.mem_map] at hy
  rcases hy with ((((((hy | hy) | hy) | ⟨s, -, rfl⟩) | ⟨s, -, rfl⟩) | ⟨s, -, rfl⟩) | hy)
  · split at hy
    · cases hy
    · simp only [List.mem_singleton] at hy
      subst hy
      exact keyT_free (by decide) (tops_free (by decide))
  · split at hy
    · cases hy
    · simp only [List.mem_singleton] at hy
      subst hy
      exact keyT_free (by decide) (tops_free (by decide))
  · split at hy
    · cases hy
    · simp only [List.mem_singleton] at hy
      subst hy
      exact keyT_free (by decide) (eOf_free _)
  · exact keyT_free (by decide) (eOf_free _)
  · exact keyT_free (by decide) (eOf_free _)
  · exact keyT_free (by decide) (eOf_free _)
  · split at hy
    · cases hy
    · simp only [List.mem_singleton] at hy
      subst hy
      refine keyT_free (by decide) (txtR_free (by decide) (by decide) (by decide) (fun r hr => ?_))
      rw [hms] at hr
      have := hg r hr
      omega
end Go.Proofs.YtbgmkplpolgebaaGreatDoor
