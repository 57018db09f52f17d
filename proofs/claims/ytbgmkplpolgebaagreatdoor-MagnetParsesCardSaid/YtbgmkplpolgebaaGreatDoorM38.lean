/-
  Several texts in one, in their build order. What a reader holds, with its own lists side by side. Plain facts on worlds. Conditions as told. The reference's topics. Conditions: the reader lies as told; the text is small.
-/
import Derived.Test.YtbgmkplpolgebaaGreatDoorM37
import Derived.Test.YtbgmkplpolgebaaGreatDoorM18
import Derived.Test.YtbgmkplpolgebaaGreatDoorM36
namespace Go.Proofs.YtbgmkplpolgebaaGreatDoor
set_option linter.unusedSimpArgs false
set_option linter.unusedVariables false
open Go.RowKit Go.Shelf

def ApartV (a b : Value) : Prop := ∀ k, a.ownBlock = some k → b.ownBlock ≠ some k
theorem ApartV.symm {a b : Value} (h : ApartV a b) : ApartV b a := fun k h1 h2 => h k h2 h1
theorem rowMod {S : Nat → Prop} {w w' : World} {base : Nat} {e : TypeId} {size : Nat} {v : Value} {n : Nat} {xs : List Value} (h : w.ownsRow base e size v n xs) (m : Mod S w w') (hs : ∀ k, v.ownBlock = some k → ¬ S k) : w'.ownsRow base e size v n xs := by
  rcases h.2 with ⟨rfl, hn⟩ | ⟨g, cap, cur, rfl, hbg, hg, r⟩
  · exact ⟨h.1, .inl ⟨rfl, hn⟩⟩
  · have hlt := (Array.getElem?_eq_some_iff.1 hg).1
    exact ⟨h.1, .inr ⟨g, cap, cur, rfl, hbg, (m.block g hlt (hs g rfl)).trans hg, r⟩⟩
theorem rowBlock {w : World} {base : Nat} {e : TypeId} {size : Nat} {v : Value} {n : Nat} {xs : List Value} (h : w.ownsRow base e size v n xs) {g : Nat} (hv : v.ownBlock = some g) : base ≤ g ∧ g < w.heap.size := by
  rcases h.2 with ⟨rfl, hn⟩ | ⟨g', cap, cur, rfl, hbg, hg, -⟩
  · cases hv
  · injection hv with hv
    subst hv
    exact ⟨hbg, (Array.getElem?_eq_some_iff.1 hg).1⟩
/-- The reader in block B tells m; its lists lie in memory of the call's own, from block base on. -/
structure RdIs (T : TypeId) (w : World) (B base : Nat) (m : MgV) (r : RdM) : Prop where
  blk : Blk w B (rdRow r) T
  old : r.old = m.old
  new : r.new = m.new
  name : r.name = m.name
  named : r.named = m.named
  only : r.only = m.only
  tr : w.ownsRow base 9 1 r.tr m.tr.length (m.tr.map Value.string)
  pe : w.ownsRow base 64 3 r.pe m.pe.length (adrRow m.pe)
  ws : w.ownsRow base 9 1 r.ws m.ws.length (m.ws.map Value.string)
  on : w.ownsRow base 66 2 r.on m.on.length (runRow m.on)
  trs : ∀ s ∈ m.tr, s.size ≤ maxLen
  wss : ∀ s ∈ m.ws, s.size ≤ maxLen
  low : B < base
  a1 : ApartV r.tr r.pe
  a2 : ApartV r.tr r.ws
  a3 : ApartV r.tr r.on
  a4 : ApartV r.pe r.ws
  a5 : ApartV r.pe r.on
  a6 : ApartV r.ws r.on
theorem apart_nil (a : Value) : ApartV (.slice none 0 0) a := fun k h => by cases h
theorem RdIs.zero {T : TypeId} {w : World} {B base : Nat} (hb : Blk w B (rdRow (rdZero mg0)) T) (hl : B < base) : RdIs T w B base mg0 (rdZero mg0) :=
  ⟨hb, rfl, rfl, rfl, rfl, rfl, World.ownsRow_nil _ _ _ _, World.ownsRow_nil _ _ _ _, World.ownsRow_nil _ _ _ _, World.ownsRow_nil _ _ _ _, by simp [mg0], by simp [mg0], hl, apart_nil _, apart_nil _, apart_nil _, apart_nil _, apart_nil _, apart_nil _⟩
/-- What turns no block of the reader. -/
theorem RdIs.mod {T : TypeId} {S : Nat → Prop} {w w' : World} {B base : Nat} {m : MgV} {r : RdM} (h : RdIs T w B base m r) (n : Mod S w w') (hB : ¬ S B) (hs : ∀ k, base ≤ k → k < w.heap.size → ¬ S k) : RdIs T w' B base m r :=
  ⟨n.blk h.blk hB, h.old, h.new, h.name, h.named, h.only, rowMod h.tr n (fun k q => hs k (rowBlock h.tr q).1 (rowBlock h.tr q).2), rowMod h.pe n (fun k q => hs k (rowBlock h.pe q).1 (rowBlock h.pe q).2), rowMod h.ws n (fun k q => hs k (rowBlock h.ws q).1 (rowBlock h.ws q).2), rowMod h.on n (fun k q => hs k (rowBlock h.on q).1 (rowBlock h.on q).2), h.trs, h.wss, h.low, h.a1, h.a2, h.a3, h.a4, h.a5, h.a6⟩
theorem RdIs.next {T : TypeId} {w w' : World} {B base : Nat} {m : MgV} {r : RdM} (h : RdIs T w B base m r) (n : New w w') : RdIs T w' B base m r := h.mod n (fun x => x) (fun _ _ _ x => x)
/-- The reader's own block turned, the lists not. -/
theorem RdIs.turn {T : TypeId} {w w' : World} {B base : Nat} {m m' : MgV} {r r' : RdM} (h : RdIs T w B base m r) (n : Mod (fun k => k = B) w w') (hb : Blk w' B (rdRow r') T) (e1 : r'.tr = r.tr) (e2 : r'.pe = r.pe) (e3 : r'.ws = r.ws) (e4 : r'.on = r.on) (m1 : m'.tr = m.tr) (m2 : m'.pe = m.pe) (m3 : m'.ws = m.ws) (m4 : m'.on = m.on) (f1 : r'.old = m'.old) (f2 : r'.new = m'.new) (f3 : r'.name = m'.name) (f4 : r'.named = m'.named) (f5 : r'.only = m'.only) : RdIs T w' B base m' r' := by
  have q : ∀ {v : Value} {e : TypeId} {size n' : Nat} {xs : List Value}, w.ownsRow base e size v n' xs → w'.ownsRow base e size v n' xs := fun g => rowMod g n (fun k q => by have := (rowBlock g q).1; have := h.low; omega)
  refine ⟨hb, f1, f2, f3, f4, f5, ?_, ?_, ?_, ?_, ?_, ?_, h.low, ?_, ?_, ?_, ?_, ?_, ?_⟩
  · rw [e1, m1]; exact q h.tr
  · rw [e2, m2]; exact q h.pe
  · rw [e3, m3]; exact q h.ws
  · rw [e4, m4]; exact q h.on
  · rw [m1]; exact h.trs
  · rw [m3]; exact h.wss
  · rw [e1, e2]; exact h.a1
  · rw [e1, e3]; exact h.a2
  · rw [e1, e4]; exact h.a3
  · rw [e2, e3]; exact h.a4
  · rw [e2, e4]; exact h.a5
  · rw [e3, e4]; exact h.a6
theorem apart_put {w : World} {base : Nat} {e : TypeId} {size n : Nat} {xs : List Value} {v o u : Value} (hu : w.ownsRow base e size u n xs) (h : ApartV v u) (hb : o.ownBlock = v.ownBlock ∨ ∃ g, o.ownBlock = some g ∧ w.heap.size ≤ g) : ApartV o u := by
  intro k h1 h2
  rcases hb with q | ⟨g, q, hg⟩
  · rw [q] at h1
    exact h k h1 h2
  · rw [q] at h1
    injection h1 with h1
    have := (rowBlock hu h2).2
    omega
/-- One list grown, and laid into the reader. -/
theorem RdIs.grow (T : TypeId) {w w2 : World} {B base : Nat} {m : MgV} {r : RdM} (h : RdIs T w B base m r) {v o : Value} (hv : ∀ k, v.ownBlock = some k → base ≤ k) (hm : Mod (fun k => v.ownBlock = some k) w w2) (i : Nat) {u : Value} {e : TypeId} {size n : Nat} {xs : List Value} (hu : w.ownsRow base e size u n xs) (ha : ApartV v u) : (w2.setCell ⟨B, i, none⟩ o).ownsRow base e size u n xs := by
  have h2 := rowMod hu hm (fun k q q2 => ha k q2 q)
  refine rowMod h2 ((Mod.refl (fun k => k = B) w2).set ⟨B, i, none⟩ o (.inl rfl)) (fun k q q2 => ?_)
  have := (rowBlock h2 q).1
  have := h.low
  omega
theorem RdIs.trPut {T : TypeId} {w w2 : World} {B base : Nat} {m : MgV} {r : RdM} (h : RdIs T w B base m r) {o : Value} {l : List ByteArray} (hm : Mod (fun k => r.tr.ownBlock = some k) w w2) (ho : OwnS w2 base o l) (hb : o.ownBlock = r.tr.ownBlock ∨ ∃ g, o.ownBlock = some g ∧ w.heap.size ≤ g) : RdIs T (w2.setCell ⟨B, 3, none⟩ o) B base { m with tr := l } { r with tr := o } := by
  have hl := h.low
  have hv : ∀ k, r.tr.ownBlock = some k → base ≤ k := fun k q => (rowBlock h.tr q).1
  have hset : ∀ {e : TypeId} {size n : Nat} {xs : List Value}, w2.ownsRow base e size o n xs → (w2.setCell ⟨B, 3, none⟩ o).ownsRow base e size o n xs := fun g => rowMod g ((Mod.refl (fun k => k = B) w2).set ⟨B, 3, none⟩ o (.inl rfl)) (fun k q q2 => by have := (rowBlock g q).1; omega)
  exact ⟨((hm.blk h.blk (fun q => by have := hv B q; omega)).set 3 o).row rfl, h.old, h.new, h.name, h.named, h.only, hset ho.row, h.grow T hv hm 3 h.pe h.a1, h.grow T hv hm 3 h.ws h.a2, h.grow T hv hm 3 h.on h.a3, ho.small, h.wss, h.low, apart_put h.pe h.a1 hb, apart_put h.ws h.a2 hb, apart_put h.on h.a3 hb, h.a4, h.a5, h.a6⟩
theorem RdIs.pePut {T : TypeId} {w w2 : World} {B base : Nat} {m : MgV} {r : RdM} (h : RdIs T w B base m r) {o : Value} {l : List AdrV} (hm : Mod (fun k => r.pe.ownBlock = some k) w w2) (ho : OwnA w2 base o l) (hb : o.ownBlock = r.pe.ownBlock ∨ ∃ g, o.ownBlock = some g ∧ w.heap.size ≤ g) : RdIs T (w2.setCell ⟨B, 4, none⟩ o) B base { m with pe := l } { r with pe := o } := by
  have hl := h.low
  have hv : ∀ k, r.pe.ownBlock = some k → base ≤ k := fun k q => (rowBlock h.pe q).1
  have hset : ∀ {e : TypeId} {size n : Nat} {xs : List Value}, w2.ownsRow base e size o n xs → (w2.setCell ⟨B, 4, none⟩ o).ownsRow base e size o n xs := fun g => rowMod g ((Mod.refl (fun k => k = B) w2).set ⟨B, 4, none⟩ o (.inl rfl)) (fun k q q2 => by have := (rowBlock g q).1; omega)
  exact ⟨((hm.blk h.blk (fun q => by have := hv B q; omega)).set 4 o).row rfl, h.old, h.new, h.name, h.named, h.only, h.grow T hv hm 4 h.tr h.a1.symm, hset ho.row, h.grow T hv hm 4 h.ws h.a4, h.grow T hv hm 4 h.on h.a5, h.trs, h.wss, h.low, (apart_put h.tr h.a1.symm hb).symm, h.a2, h.a3, apart_put h.ws h.a4 hb, apart_put h.on h.a5 hb, h.a6⟩
theorem RdIs.wsPut {T : TypeId} {w w2 : World} {B base : Nat} {m : MgV} {r : RdM} (h : RdIs T w B base m r) {o : Value} {l : List ByteArray} (hm : Mod (fun k => r.ws.ownBlock = some k) w w2) (ho : OwnS w2 base o l) (hb : o.ownBlock = r.ws.ownBlock ∨ ∃ g, o.ownBlock = some g ∧ w.heap.size ≤ g) : RdIs T (w2.setCell ⟨B, 5, none⟩ o) B base { m with ws := l } { r with ws := o } := by
  have hl := h.low
  have hv : ∀ k, r.ws.ownBlock = some k → base ≤ k := fun k q => (rowBlock h.ws q).1
  have hset : ∀ {e : TypeId} {size n : Nat} {xs : List Value}, w2.ownsRow base e size o n xs → (w2.setCell ⟨B, 5, none⟩ o).ownsRow base e size o n xs := fun g => rowMod g ((Mod.refl (fun k => k = B) w2).set ⟨B, 5, none⟩ o (.inl rfl)) (fun k q q2 => by have := (rowBlock g q).1; omega)
  exact ⟨((hm.blk h.blk (fun q => by have := hv B q; omega)).set 5 o).row rfl, h.old, h.new, h.name, h.named, h.only, h.grow T hv hm 5 h.tr h.a2.symm, h.grow T hv hm 5 h.pe h.a4.symm, hset ho.row, h.grow T hv hm 5 h.on h.a6, h.trs, ho.small, h.low, h.a1, (apart_put h.tr h.a2.symm hb).symm, h.a3, (apart_put h.pe h.a4.symm hb).symm, h.a5, apart_put h.on h.a6 hb⟩
/-- The runs, laid into the reader from new memory. -/
theorem RdIs.onPut {T : TypeId} {w w2 : World} {B base : Nat} {m : MgV} {r : RdM} (h : RdIs T w B base m r) {o : Value} {l : List (Int × Int)} (hm : New w w2) (ho : OwnR w2 base o l) (hb : ∀ k, o.ownBlock = some k → w.heap.size ≤ k) : RdIs T (w2.setCell ⟨B, 6, none⟩ o) B base { m with on := l } { r with on := o } := by
  have hl := h.low
  have h2 := h.next hm
  have q : ∀ {v : Value} {e : TypeId} {size n' : Nat} {xs : List Value}, w2.ownsRow base e size v n' xs → (w2.setCell ⟨B, 6, none⟩ o).ownsRow base e size v n' xs := fun g => rowMod g ((Mod.refl (fun k => k = B) w2).set ⟨B, 6, none⟩ o (.inl rfl)) (fun k q q2 => by have := (rowBlock g q).1; omega)
  have a : ∀ {v : Value} {e : TypeId} {size n' : Nat} {xs : List Value}, w.ownsRow base e size v n' xs → ApartV v o := fun g k h1 h3 => by have := (rowBlock g h1).2; have := hb k h3; omega
  exact ⟨(h2.blk.set 6 o).row rfl, h.old, h.new, h.name, h.named, h.only, q h2.tr, q h2.pe, q h2.ws, q ho, h.trs, h.wss, h.low, h.a1, h.a2, a h.tr, h.a4, a h.pe, a h.ws⟩
end Go.Proofs.YtbgmkplpolgebaaGreatDoor

namespace Go.Proofs.YtbgmkplpolgebaaGreatDoor
set_option linter.unusedSimpArgs false
set_option linter.unusedVariables false
open Go.RowKit Go.Shelf

theorem tO_no {r : RdM} {s : ByteArray} (h : isU uOld s = false) : tO r s = .ok r := by unfold tO; rw [h]; rfl
theorem tN_no {r : RdM} {s : ByteArray} (h : isU uNew s = false) : tN r s = .ok r := by unfold tN; rw [h]; rfl
theorem tO_none {r : RdM} {s : ByteArray} (h : isU uOld s = true) (ht : rTop 20 (digU uOld s).data.toList = none) : tO r s = .error 2 := by
  unfold tO
  rw [if_pos h]
  unfold rTop at ht
  have hl : (digU uOld s).data.toList.length = (digU uOld s).size := by rw [Array.length_toList]; rfl
  by_cases q : (digU uOld s).size ≠ 40
  · rw [if_pos q]
  · rw [if_neg q]
    rw [if_neg (by simp only [ne_eq, Decidable.not_not] at q; omega)] at ht
    rw [ht]
theorem tN_none {r : RdM} {s : ByteArray} (h : isU uNew s = true) (ht : rTop 32 (digU uNew s).data.toList = none) : tN r s = .error 2 := by
  unfold tN
  rw [if_pos h]
  unfold rTop at ht
  have hl : (digU uNew s).data.toList.length = (digU uNew s).size := by rw [Array.length_toList]; rfl
  by_cases q : (digU uNew s).size ≠ 64
  · rw [if_pos q]
  · rw [if_neg q]
    rw [if_neg (by simp only [ne_eq, Decidable.not_not] at q; omega)] at ht
    rw [ht]
theorem tO_some {r : RdM} {s : ByteArray} {x : List UInt8} (h : isU uOld s = true) (ht : rTop 20 (digU uOld s).data.toList = some x) : tO r s = if r.old.toList ≠ [] then .error 6 else .ok { r with old := ⟨x.toArray⟩ } := by
  unfold tO
  rw [if_pos h]
  unfold rTop at ht
  have hl : (digU uOld s).data.toList.length = (digU uOld s).size := by rw [Array.length_toList]; rfl
  by_cases q : (digU uOld s).size ≠ 40
  · rw [if_pos (by omega)] at ht
    cases ht
  · rw [if_neg q]
    rw [if_neg (by simp only [ne_eq, Decidable.not_not] at q; omega)] at ht
    rw [ht]
theorem tN_some {r : RdM} {s : ByteArray} {x : List UInt8} (h : isU uNew s = true) (ht : rTop 32 (digU uNew s).data.toList = some x) : tN r s = if r.new.toList ≠ [] then .error 6 else .ok { r with new := ⟨x.toArray⟩ } := by
  unfold tN
  rw [if_pos h]
  unfold rTop at ht
  have hl : (digU uNew s).data.toList.length = (digU uNew s).size := by rw [Array.length_toList]; rfl
  by_cases q : (digU uNew s).size ≠ 64
  · rw [if_pos (by omega)] at ht
    cases ht
  · rw [if_neg q]
    rw [if_neg (by simp only [ne_eq, Decidable.not_not] at q; omega)] at ht
    rw [ht]
def RdOutR (B : Nat) (w : World) : Except Int RdM → Ending → World → Prop
  | .ok r, e, w' => e = .returned (.int .i64 0) ∧ Blk w' B (rdRow r) 59 ∧ Mod (fun k => k = B) w w'
  | .error k, e, w' => e = .returned (.int .i64 k) ∧ Mod (fun k => k = B) w w'
theorem RdOutR.no {B : Nat} {w w' : World} {x : Except Int RdM} {k : Int} (h : x = .error k) (m : Mod (fun k => k = B) w w') : RdOutR B w x (.returned (.int .i64 k)) w' := by subst h; exact ⟨rfl, m⟩
theorem RdOutR.yes {B : Nat} {w w' : World} {x : Except Int RdM} {r : RdM} (h : x = .ok r) (hb : Blk w' B (rdRow r) 59) (m : Mod (fun k => k = B) w w') : RdOutR B w x (.returned (.int .i64 0)) w' := by subst h; exact ⟨rfl, hb, m⟩
set_option maxRecDepth 100000 in
set_option maxHeartbeats 8000000 in
theorem rtopics_any (B : Nat) (r : RdM) (s : ByteArray) (w : World) (hb : Blk w B (rdRow r) 59) (hs : s.size ≤ 65536) :
    Calls Tryz.prog 84 #[.pointer (some ⟨B, 0, none⟩), .string s] w fun e w' => RdOutR B w (topicR r s) e w' := by
  have HB := hid hb
  have HBO := hid (fun W => begins_any s uOld W (by omega) (by decide))
  have HBN := hid (fun W => begins_any s uNew W (by omega) (by decide))
  clear hb
  cases hU : isU uOld s with
  | false =>
    rw [hU] at HBO
    have HT1 := hid (tO_no (r := r) hU)
    clear hU
    go_enter Tryz.func84, Tryz.ntmps84
    go_wp2_with fail
    refine (HBO.out _).mono ?_
    rintro e w2 ⟨rfl, rfl⟩
    go_wp2_with fail
    obtain ⟨r1, hr1⟩ : ∃ r1, r1 = r := ⟨_, rfl⟩
    have HB1 : Hid (Blk w B (rdRow r1) 59) := hid (by rw [hr1]; exact HB.out)
    have HT1 : Hid (tO r s = .ok r1) := hid (by rw [hr1]; exact HT1.out)
    have M1 := hid (Mod.refl (fun k => k = B) w)
    clear hr1
    refine (HBN.out _).mono ?_
    rintro e w5 ⟨rfl, rfl⟩
    cases hU2 : isU uNew s with
    | false =>
      have HT2 := hid (tN_no (r := r1) hU2)
      have HX := hid ((topic_yes HT1.out).trans HT2.out)
      clear hU2
      go_wp2_with fail
      go_ret
      exact RdOutR.yes HX.out HB1.out M1.out
    | true =>
      have HTP := hid (fun W => rtopic_any 32 (begR s uNew) W (by omega) (by unfold begR; rw [if_pos hU2]; have := digU_le uNew s; omega))
      rw [show begR s uNew = digU uNew s by unfold begR; rw [if_pos hU2]] at HTP
      cases hx : rTop 32 (digU uNew s).data.toList with
      | none =>
        have HX := hid ((topic_yes HT1.out).trans (tN_none (r := r1) hU2 hx))
        rw [hx] at HTP
        rw [show begR s uNew = digU uNew s by unfold begR; rw [if_pos hU2]]
        clear hU2 hx
        go_wp2_with fail
        refine (HTP.out _).mono ?_
        rintro e w6 ⟨rfl, n6⟩
        have M6 := hid (M1.out.trans (New.mod n6))
        clear n6
        go_wp2_with fail
        go_ret
        exact RdOutR.no HX.out M6.out
      | some x =>
        have HTS := hid (tN_some (r := r1) hU2 hx)
        rw [hx] at HTP
        rw [show begR s uNew = digU uNew s by unfold begR; rw [if_pos hU2]]
        obtain ⟨Z, hZ⟩ : ∃ Z : ByteArray, Z = ⟨x.toArray⟩ := ⟨_, rfl⟩
        rw [show topB (some x) = Z by rw [hZ]; rfl] at HTP
        rw [← hZ] at HTS
        clear hU2 hx hZ
        cases ho : r1.new.toList == [] with
        | false =>
          have HX := hid ((topic_yes HT1.out).trans (HTS.out.trans (if_pos (by rw [beq_eq_false_iff_ne] at ho; exact ho))))
          have hn : (r1.new.toList != []) = true := by rw [bne, ho]; rfl
          go_wp2_with fail
          refine (HTP.out _).mono ?_
          rintro e w6 ⟨rfl, n6⟩
          have B6 := hid (New.blk n6 HB1.out)
          have c1 : w6.cell? ⟨B, 1, none⟩ = some (.string r1.new) := B6.out.cellv 1 rfl
          have M6 := hid (M1.out.trans (New.mod n6))
          clear n6
          go_wp2_with fail
          go_ret
          exact RdOutR.no HX.out M6.out
        | true =>
          have HX := hid ((topic_yes HT1.out).trans (HTS.out.trans (if_neg (by rw [beq_iff_eq] at ho; rw [ho]; exact fun q => q rfl))))
          have hn : (r1.new.toList != []) = false := by rw [bne, ho]; rfl
          go_wp2_with fail
          refine (HTP.out _).mono ?_
          rintro e w6 ⟨rfl, n6⟩
          have B6 := hid (New.blk n6 HB1.out)
          have c1 : w6.cell? ⟨B, 1, none⟩ = some (.string r1.new) := B6.out.cellv 1 rfl
          have bl := B6.out.lt
          have bf := B6.out.frz 1
          have M6 := hid (M1.out.trans (New.mod n6))
          clear n6
          go_wp2_with fail
          go_ret
          exact RdOutR.yes HX.out ((B6.out.set 1 (.string Z)).row rfl) (Mod.set M6.out ⟨B, 1, none⟩ _ (.inl rfl))
  | true =>
    rw [hU] at HBO
    have hbe : begR s uOld = digU uOld s := by unfold begR; rw [if_pos hU]
    rw [hbe] at HBO
    have HTP := hid (fun W => rtopic_any 20 (digU uOld s) W (by omega) (by have := digU_le uOld s; omega))
    cases hx : rTop 20 (digU uOld s).data.toList with
    | none =>
      rw [hx] at HTP
      have HX := hid (topic_no (tO_none (r := r) hU hx))
      clear hU hbe hx
      go_enter Tryz.func84, Tryz.ntmps84
      go_wp2_with fail
      refine (HBO.out _).mono ?_
      rintro e w2 ⟨rfl, rfl⟩
      go_wp2_with fail
      refine (HTP.out _).mono ?_
      rintro e w6 ⟨rfl, n6⟩
      have M6 := hid (New.mod (S := fun k => k = B) n6)
      clear n6
      go_wp2_with fail
      go_ret
      exact RdOutR.no HX.out M6.out
    | some x =>
      have HTS := hid (tO_some (r := r) hU hx)
      rw [hx] at HTP
      obtain ⟨Z, hZ⟩ : ∃ Z : ByteArray, Z = ⟨x.toArray⟩ := ⟨_, rfl⟩
      rw [show topB (some x) = Z by rw [hZ]; rfl] at HTP
      rw [← hZ] at HTS
      clear hU hbe hx hZ
      cases ho : r.old.toList == [] with
      | false =>
        have HX := hid (topic_no (HTS.out.trans (if_pos (by rw [beq_eq_false_iff_ne] at ho; exact ho))))
        have hn : (r.old.toList != []) = true := by rw [bne, ho]; rfl
        go_enter Tryz.func84, Tryz.ntmps84
        go_wp2_with fail
        refine (HBO.out _).mono ?_
        rintro e w2 ⟨rfl, rfl⟩
        go_wp2_with fail
        refine (HTP.out _).mono ?_
        rintro e w6 ⟨rfl, n6⟩
        have B6 := hid (New.blk n6 HB.out)
        have c1 : w6.cell? ⟨B, 0, none⟩ = some (.string r.old) := B6.out.cellv 0 rfl
        have M6 := hid (New.mod (S := fun k => k = B) n6)
        clear n6
        go_wp2_with fail
        go_ret
        exact RdOutR.no HX.out M6.out
      | true =>
        have HT1 := hid (HTS.out.trans (if_neg (by rw [beq_iff_eq] at ho; rw [ho]; exact fun q => q rfl)))
        have hn : (r.old.toList != []) = false := by rw [bne, ho]; rfl
        go_enter Tryz.func84, Tryz.ntmps84
        go_wp2_with fail
        refine (HBO.out _).mono ?_
        rintro e w2 ⟨rfl, rfl⟩
        go_wp2_with fail
        refine (HTP.out _).mono ?_
        rintro e w6 ⟨rfl, n6⟩
        have B6 := hid (New.blk n6 HB.out)
        have c1 : w6.cell? ⟨B, 0, none⟩ = some (.string r.old) := B6.out.cellv 0 rfl
        have bl := B6.out.lt
        have bf := B6.out.frz 0
        have M6 := hid (New.mod (S := fun k => k = B) n6)
        clear n6
        go_wp2_with fail
        obtain ⟨r1, hr1⟩ : ∃ r1, r1 = { r with old := Z } := ⟨_, rfl⟩
        rw [← hr1] at HT1
        have HB1 : Hid (Blk (w6.setCell ⟨B, 0, none⟩ (.string Z)) B (rdRow r1) 59) := hid (by rw [hr1]; exact (B6.out.set 0 (.string Z)).row rfl)
        have M1 := hid (Mod.set M6.out ⟨B, 0, none⟩ (.string Z) (.inl rfl))
        obtain ⟨W, hW⟩ : ∃ W, W = w6.setCell ⟨B, 0, none⟩ (.string Z) := ⟨_, rfl⟩
        rw [← hW] at HB1 M1 ⊢
        clear hr1 hW c1 bl bf
        refine (HBN.out _).mono ?_
        rintro e w5 ⟨rfl, rfl⟩
        cases hU2 : isU uNew s with
        | false =>
          have HT2 := hid (tN_no (r := r1) hU2)
          have HX := hid ((topic_yes HT1.out).trans HT2.out)
          clear hU2
          go_wp2_with fail
          go_ret
          exact RdOutR.yes HX.out HB1.out M1.out
        | true =>
          have HTP := hid (fun W => rtopic_any 32 (begR s uNew) W (by omega) (by unfold begR; rw [if_pos hU2]; have := digU_le uNew s; omega))
          rw [show begR s uNew = digU uNew s by unfold begR; rw [if_pos hU2]] at HTP
          cases hx : rTop 32 (digU uNew s).data.toList with
          | none =>
            have HX := hid ((topic_yes HT1.out).trans (tN_none (r := r1) hU2 hx))
            rw [hx] at HTP
            rw [show begR s uNew = digU uNew s by unfold begR; rw [if_pos hU2]]
            clear hU2 hx
            go_wp2_with fail
            refine (HTP.out _).mono ?_
            rintro e w6 ⟨rfl, n6⟩
            have M6 := hid (M1.out.trans (New.mod n6))
            clear n6
            go_wp2_with fail
            go_ret
            exact RdOutR.no HX.out M6.out
          | some x =>
            have HTS := hid (tN_some (r := r1) hU2 hx)
            rw [hx] at HTP
            rw [show begR s uNew = digU uNew s by unfold begR; rw [if_pos hU2]]
            obtain ⟨Z, hZ⟩ : ∃ Z : ByteArray, Z = ⟨x.toArray⟩ := ⟨_, rfl⟩
            rw [show topB (some x) = Z by rw [hZ]; rfl] at HTP
            rw [← hZ] at HTS
            clear hU2 hx hZ
            cases ho : r1.new.toList == [] with
            | false =>
              have HX := hid ((topic_yes HT1.out).trans (HTS.out.trans (if_pos (by rw [beq_eq_false_iff_ne] at ho; exact ho))))
              have hn : (r1.new.toList != []) = true := by rw [bne, ho]; rfl
              go_wp2_with fail
              refine (HTP.out _).mono ?_
              rintro e w6 ⟨rfl, n6⟩
              have B6 := hid (New.blk n6 HB1.out)
              have c1 : w6.cell? ⟨B, 1, none⟩ = some (.string r1.new) := B6.out.cellv 1 rfl
              have M6 := hid (M1.out.trans (New.mod n6))
              clear n6
              go_wp2_with fail
              go_ret
              exact RdOutR.no HX.out M6.out
            | true =>
              have HX := hid ((topic_yes HT1.out).trans (HTS.out.trans (if_neg (by rw [beq_iff_eq] at ho; rw [ho]; exact fun q => q rfl))))
              have hn : (r1.new.toList != []) = false := by rw [bne, ho]; rfl
              go_wp2_with fail
              refine (HTP.out _).mono ?_
              rintro e w6 ⟨rfl, n6⟩
              have B6 := hid (New.blk n6 HB1.out)
              have c1 : w6.cell? ⟨B, 1, none⟩ = some (.string r1.new) := B6.out.cellv 1 rfl
              have bl := B6.out.lt
              have bf := B6.out.frz 1
              have M6 := hid (M1.out.trans (New.mod n6))
              clear n6
              go_wp2_with fail
              go_ret
              exact RdOutR.yes HX.out ((B6.out.set 1 (.string Z)).row rfl) (Mod.set M6.out ⟨B, 1, none⟩ _ (.inl rfl))
end Go.Proofs.YtbgmkplpolgebaaGreatDoor
