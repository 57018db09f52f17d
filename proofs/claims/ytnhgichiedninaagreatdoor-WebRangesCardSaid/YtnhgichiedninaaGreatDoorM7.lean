/-
  Several texts in one, in their build order. The walk of (*check).file: one file of a list is asked. Conditions: the check's two sets and the file lie as told. The walk of (*check).file: the faults of a name. Conditions: the check's two sets and the file lie as told.
-/
import Derived.Test.YtnhgichiedninaaGreatDoorM4
import Derived.Test.YtnhgichiedninaaGreatDoorM5
import Derived.Test.YtnhgichiedninaaGreatDoorM6
import Derived.Deep.RegionHeld3
import Derived.Deep.RegionWith
namespace Go.Proofs.YtnhgichiedninaaGreatDoor
set_option linter.unusedSimpArgs false
set_option linter.unusedVariables false
open Go.RowKit

theorem StrsAt.mod {S : Nat → Prop} {w w' : World} {a : Option Addr} {c : Nat} {p : List ByteArray} (h : StrsAt w a c p) (hm : Mod S w w') (hs : ∀ b o s, w.cell? ⟨b, o, none⟩ = some (.string s) → ¬ S b) : StrsAt w' a c p := by
  refine ⟨h.room, h.cap, h.small, ?_⟩
  rcases h.at' with h | ⟨b, o, e, hb, hc⟩
  · exact .inl h
  · exact .inr ⟨b, o, e, Nat.lt_of_lt_of_le hb hm.size, fun i s hs' => Mod.cellv hm (hc i s hs') (hs b (o + i) s (hc i s hs'))⟩
theorem SetAt.no_cell {w : World} {b : Nat} {S : List ByteArray} (h : SetAt w b S) (o : Nat) : w.cell? ⟨b, o, none⟩ = none := by
  obtain ⟨es, clock, hb, -⟩ := h
  simp [World.cell?, hb]

/-- What the worlds within a call of file hold: i's box, the file's box, the check, its two sets, the path, the table; what has turned since w0. -/
structure Ck (w0 w : World) (bi bf b bm ba : Nat) (i : Nat) (tot : Int) (pa : Option Addr) (pc : Nat) (f : FileV) (M A : List ByteArray) : Prop where
  xi : Blk w bi #[.int .i64 i] 3
  xf : Blk w bf (frow pa pc f) 60
  xc : Blk w b #[.map (some bm), .map (some ba), .int .i64 tot] 199
  sm : SetAt w bm M
  sa : SetAt w ba A
  sp : StrsAt w pa pc f.path
  far : bi ≠ bm ∧ bi ≠ ba ∧ bf ≠ bm ∧ bf ≠ ba ∧ b ≠ bm ∧ b ≠ ba ∧ bm ≠ ba
  mod : Mod (fun k => k = b ∨ k = bm ∨ k = ba) w0 w
section
variable {w0 w w' : World} {bi bf b bm ba : Nat} {i : Nat} {tot : Int} {pa : Option Addr} {pc : Nat} {f : FileV} {M A : List ByteArray}
theorem Ck.new (h : Ck w0 w bi bf b bm ba i tot pa pc f M A) (n : New w w') : Ck w0 w' bi bf b bm ba i tot pa pc f M A :=
  ⟨n.blk h.xi, n.blk h.xf, n.blk h.xc, h.sm.mod n (fun x => x), h.sa.mod n (fun x => x), h.sp.new n, h.far, h.mod.trans' n (fun _ _ x => x.elim)⟩
theorem Ck.alloc (h : Ck w0 w bi bf b bm ba i tot pa pc f M A) (o : Obj) : Ck w0 (w.alloc o) bi bf b bm ba i tot pa pc f M A := h.new ((Mod.refl _ _).alloc o)
theorem Ck.drew (h : Ck w0 w bi bf b bm ba i tot pa pc f M A) : Ck w0 w.drew bi bf b bm ba i tot pa pc f M A := h.new (Mod.refl _ _).drew
theorem Ck.drewN (h : Ck w0 w bi bf b bm ba i tot pa pc f M A) (n : Nat) : Ck w0 (w.drewN n) bi bf b bm ba i tot pa pc f M A := h.new ((Mod.refl _ _).drewN n)
theorem Ck.cells (h : Ck w0 w bi bf b bm ba i tot pa pc f M A) : w.cell? ⟨bf, 0, none⟩ = some (.slice pa f.path.length pc) ∧ w.cell? ⟨bf, 1, none⟩ = some (.int .i64 f.len) ∧ w.cell? ⟨bf, 2, none⟩ = some (.bool f.pad) ∧ w.cell? ⟨b, 0, none⟩ = some (.map (some bm)) ∧ w.cell? ⟨b, 1, none⟩ = some (.map (some ba)) ∧ w.cell? ⟨b, 2, none⟩ = some (.int .i64 tot) ∧ w.frozen? ⟨b, 2, none⟩ = false ∧ b < w.heap.size ∧ bf < w.heap.size ∧ w.cell? ⟨bi, 0, none⟩ = some (.int .i64 i) ∧ bi < w.heap.size :=
  ⟨h.xf.cellv 0 rfl, h.xf.cellv 1 rfl, h.xf.cellv 2 rfl, h.xc.cellv 0 rfl, h.xc.cellv 1 rfl, h.xc.cellv 2 rfl, h.xc.frz 2, h.xc.lt, h.xf.lt, h.xi.cellv 0 rfl, h.xi.lt⟩
theorem Ck.put_m (h : Ck w0 w bi bf b bm ba i tot pa pc f M A) {M' : List ByteArray} (hs : SetAt w' bm M') (hm : Mod (· = bm) w w') : Ck w0 w' bi bf b bm ba i tot pa pc f M' A := by
  obtain ⟨f1, f2, f3, f4, f5, f6, f7⟩ := h.far
  refine ⟨hm.blk h.xi f1, hm.blk h.xf f3, hm.blk h.xc f5, hs, h.sa.mod hm (Ne.symm f7), h.sp.mod hm (fun b' o s hc e => ?_), h.far, h.mod.trans' hm (fun k _ e => .inr (.inl e))⟩
  rw [e, h.sm.no_cell] at hc
  cases hc
theorem Ck.put_a (h : Ck w0 w bi bf b bm ba i tot pa pc f M A) {A' : List ByteArray} (hs : SetAt w' ba A') (hm : Mod (· = ba) w w') : Ck w0 w' bi bf b bm ba i tot pa pc f M A' := by
  obtain ⟨f1, f2, f3, f4, f5, f6, f7⟩ := h.far
  refine ⟨hm.blk h.xi f2, hm.blk h.xf f4, hm.blk h.xc f6, h.sm.mod hm f7, hs, h.sp.mod hm (fun b' o s hc e => ?_), h.far, h.mod.trans' hm (fun k _ e => .inr (.inr e))⟩
  rw [e, h.sa.no_cell] at hc
  cases hc
end

/-- What file leaves behind, where it finds no fault. -/
structure Done (w0 w : World) (b bm ba : Nat) (tot : Int) (M A : List ByteArray) : Prop where
  xc : Blk w b #[.map (some bm), .map (some ba), .int .i64 tot] 199
  sm : SetAt w bm M
  sa : SetAt w ba A
  mod : Mod (fun k => k = b ∨ k = bm ∨ k = ba) w0 w

/-- What file is asked: the check, its two sets, the file, the table. -/
structure Ask (w : World) (b bm ba : Nat) (pa : Option Addr) (pc : Nat) (f : FileV) (tot : Int) (M A : List ByteArray) : Prop where
  xc : Blk w b #[.map (some bm), .map (some ba), .int .i64 tot] 199
  sm : SetAt w bm M
  sa : SetAt w ba A
  sp : StrsAt w pa pc f.path
  far : b ≠ bm ∧ b ≠ ba ∧ bm ≠ ba
  tab : Tab w
  len : -9223372036854775808 ≤ f.len ∧ f.len ≤ 9223372036854775807
abbrev boxes (w : World) (i : Nat) (pa : Option Addr) (pc : Nat) (f : FileV) : World := (w.alloc (.cells #[.int .i64 i] 3)).alloc (.cells #[.slice pa f.path.length pc, .int .i64 f.len, .bool f.pad] 60)
theorem boxes_new (w : World) (i : Nat) (pa : Option Addr) (pc : Nat) (f : FileV) : New w (boxes w i pa pc f) := ((Mod.refl _ _).alloc _).alloc _
theorem Ask.start {w : World} {b bm ba : Nat} {pa : Option Addr} {pc : Nat} {f : FileV} {tot : Int} {M A : List ByteArray} (h : Ask w b bm ba pa pc f tot M A) (i : Nat) :
    Ck w (boxes w i pa pc f) w.heap.size (w.heap.size + 1) b bm ba i tot pa pc f M A := by
  have q1 := h.sm.lt
  have q2 := h.sa.lt
  exact ⟨(Blk.new _ _ _).alloc _, by have := Blk.new (w.alloc (.cells #[.int .i64 i] 3)) (frow pa pc f) 60; simpa using this, (h.xc.alloc _).alloc _, (h.sm.alloc _).alloc _, (h.sa.alloc _).alloc _, h.sp.new (boxes_new _ _ _ _ _), ⟨by omega, by omega, by omega, by omega, h.far.1, h.far.2.1, h.far.2.2⟩, ((Mod.refl _ _).alloc _).alloc _⟩
/-- The end of file: a fault, or the check turned. -/
def Fin (w : World) (b bm ba i : Nat) (f : FileV) (tot : Int) (M A : List ByteArray) : Option Int → Ending → World → Prop
  | some e, e', w' => e' = .panicked (told i e) ∧ Mod (fun k => k = b ∨ k = bm ∨ k = ba) w w'
  | none, e', w' => e' = .returned (.tuple #[]) ∧ Done w w' b bm ba (tot + f.len) (addM f M) (addA f A)
theorem strs_pad (w : World) (n : Int) (hs : (itoaB n).size ≤ 21) : StrsAt (w.alloc (.cells #[.string ⟨#[46, 112, 97, 100]⟩, .string (itoaB n)] 9)) (some ⟨w.heap.size, 0, none⟩) 2 (padPath n) := by
  refine ⟨Nat.le_refl _, by simp [maxLen], fun s h => ?_, .inr ⟨_, _, rfl, by simp, fun i s h => ?_⟩⟩
  · simp [padPath] at h
    rcases h with rfl | rfl
    · simp [dotpad, maxLen]
      decide
    · unfold maxLen; omega
  · have hb := Blk.new w #[.string ⟨#[46, 112, 97, 100]⟩, .string (itoaB n)] 9
    match i, h with
    | 0, h => simp [padPath, dotpad] at h; subst h; exact hb.cellv 0 rfl
    | 1, h => simp [padPath] at h; subst h; exact hb.cellv 1 rfl
    | i + 2, h => simp [padPath] at h

theorem StrsAt.alloc {w : World} {a : Option Addr} {c : Nat} {p : List ByteArray} (h : StrsAt w a c p) (o : Obj) : StrsAt (w.alloc o) a c p := h.new ((Mod.refl _ _).alloc o)
theorem StrsAt.drew {w : World} {a : Option Addr} {c : Nat} {p : List ByteArray} (h : StrsAt w a c p) : StrsAt w.drew a c p := h.new (Mod.refl _ _).drew


theorem Done.drew {w0 w : World} {b bm ba : Nat} {tot : Int} {M A : List ByteArray} (h : Done w0 w b bm ba tot M A) : Done w0 w.drew b bm ba tot M A := ⟨h.xc.drew, h.sm.drew, h.sa.drew, h.mod.drew⟩
theorem Ck.finish {w0 w : World} {bi bf b bm ba : Nat} {i : Nat} {tot : Int} {pa : Option Addr} {pc : Nat} {f : FileV} {M A : List ByteArray} (h : Ck w0 w bi bf b bm ba i tot pa pc f M A) (t : Int) :
    Done w0 (w.setCell ⟨b, 2, none⟩ (.int .i64 t)) b bm ba t M A :=
  ⟨(h.xc.set 2 _).row rfl, h.sm.other (Ne.symm h.far.2.2.2.2.1), h.sa.other (Ne.symm h.far.2.2.2.2.2.1), h.mod.set _ _ (.inl (.inl rfl))⟩
end Go.Proofs.YtnhgichiedninaaGreatDoor

namespace Go.Proofs.YtnhgichiedninaaGreatDoor
set_option linter.unusedSimpArgs false
set_option linter.unusedVariables false
open Go.RowKit

set_option maxRecDepth 100000 in
set_option maxHeartbeats 1000000 in
theorem file_name1 (b bm ba : Nat) (i last : Nat) (tot : Int) (pa : Option Addr) (pc : Nat) (f : FileV) (M A : List ByteArray) (w : World) (h : Ask w b bm ba pa pc f tot M A) (h1 : f.path.length < 1) :
    Calls Tryz.prog 140 #[.pointer (some ⟨b, 0, none⟩), .int .i64 i, .int .i64 last, fileV pa pc f] w (Fin w b bm ba i f tot M A (some 5)) := by
  have K0 := hid (h.start i)
  have HT := hid (h.tab.new (boxes_new w i (pa) pc f))
  have HL := hid h.len
  have HS := hid (itoa_size h.len.1 h.len.2)
  have hr := h.sp.room; have hr2 := h.sp.cap
  have hblt := h.xc.lt
  unfold maxLen at hr2
  have hmf : ∀ (fn : Fn) (first cap : Array Value) (w : World), (Instr.makeFunc fn first cap).run Tryz.prog w = .ok (.func fn first cap) w := fun _ _ _ _ => rfl
  clear h
  have HC9 := hid (fun (w1 : World) (_ : New (boxes w i pa pc f) w1) => trivial)
  obtain ⟨pad, HP⟩ : ∃ p, Hid (f.pad = p) := ⟨_, rfl⟩
  go_enter Tryz.func140, Tryz.ntmps140
  go_wp2_with (first | (go_at_call 71; refine (itoa_any _ HL.out.1 HL.out.2 _ HT.out).mono ?_; rintro e w1 ⟨rfl, n1⟩; have K1 := hid (Ck.new K0.out n1); have P1 := hid (strs_pad w1 f.len HS.out); obtain ⟨c9, c10⟩ := HC9.out w1 n1; clear n1; obtain ⟨c0, c1, c2, c3, c4, c5, c6, c7, c8, cy, cz⟩ := K1.out.cells; rw [HP.out] at c2) | (go_at_call_of 160 (Value.bool true); refine (fail_raise w.heap.size i _ 3 _ ?_).mono ?_; (focus (repeat (first | with_reducible exact K1.out.xi | with_reducible apply Blk.alloc | with_reducible apply Blk.drew | with_reducible apply Blk.drewN | (with_reducible apply Blk.other; · first | (simp; done) | (simp; omega) | omega)))); rintro e w9 ⟨rfl, rfl⟩))
  exact ⟨rfl, rfl, (K1.out.alloc _).mod⟩
set_option maxRecDepth 100000 in
set_option maxHeartbeats 1000000 in
theorem file_name2 (b bm ba : Nat) (i last : Nat) (tot : Int) (pa : Option Addr) (pc : Nat) (f : FileV) (M A : List ByteArray) (w : World) (h : Ask w b bm ba pa pc f tot M A) (h1 : 8 < f.path.length) :
    Calls Tryz.prog 140 #[.pointer (some ⟨b, 0, none⟩), .int .i64 i, .int .i64 last, fileV pa pc f] w (Fin w b bm ba i f tot M A (some 5)) := by
  have K0 := hid (h.start i)
  have HT := hid (h.tab.new (boxes_new w i (pa) pc f))
  have HL := hid h.len
  have HS := hid (itoa_size h.len.1 h.len.2)
  have hr := h.sp.room; have hr2 := h.sp.cap
  have hblt := h.xc.lt
  unfold maxLen at hr2
  have hmf : ∀ (fn : Fn) (first cap : Array Value) (w : World), (Instr.makeFunc fn first cap).run Tryz.prog w = .ok (.func fn first cap) w := fun _ _ _ _ => rfl
  clear h
  have HC9 := hid (fun (w1 : World) (_ : New (boxes w i pa pc f) w1) => And.intro trivial trivial)
  obtain ⟨pad, HP⟩ : ∃ p, Hid (f.pad = p) := ⟨_, rfl⟩
  go_enter Tryz.func140, Tryz.ntmps140
  go_wp2_with (first | (go_at_call 71; refine (itoa_any _ HL.out.1 HL.out.2 _ HT.out).mono ?_; rintro e w1 ⟨rfl, n1⟩; have K1 := hid (Ck.new K0.out n1); have P1 := hid (strs_pad w1 f.len HS.out); obtain ⟨c9, c10⟩ := HC9.out w1 n1; clear n1; obtain ⟨c0, c1, c2, c3, c4, c5, c6, c7, c8, cy, cz⟩ := K1.out.cells; rw [HP.out] at c2) | (go_at_call_of 160 (Value.bool true); refine (fail_raise w.heap.size i _ 3 _ ?_).mono ?_; (focus (repeat (first | with_reducible exact K1.out.xi | with_reducible apply Blk.alloc | with_reducible apply Blk.drew | with_reducible apply Blk.drewN | (with_reducible apply Blk.other; · first | (simp; done) | (simp; omega) | omega)))); rintro e w9 ⟨rfl, rfl⟩))
  exact ⟨rfl, rfl, (K1.out.alloc _).mod⟩

set_option maxRecDepth 100000 in
set_option maxHeartbeats 1000000 in
theorem file_name3 (b bm ba : Nat) (i last : Nat) (tot : Int) (pa : Option Addr) (pc : Nat) (f : FileV) (M A : List ByteArray) (w : World) (h : Ask w b bm ba pa pc f tot M A) (h1 : 1 ≤ f.path.length) (h2 : f.path.length ≤ 8) (h3 : f.path.all partOk = false) :
    Calls Tryz.prog 140 #[.pointer (some ⟨b, 0, none⟩), .int .i64 i, .int .i64 last, fileV pa pc f] w (Fin w b bm ba i f tot M A (some 5)) := by
  have HC := hid (fun (w : World) (h : StrsAt w pa pc f.path) => (h3 ▸ contains_any pa pc f.path w h : Calls Tryz.prog 31 #[.slice pa f.path.length pc, .func (.func 161) #[] #[]] w fun e w' => e = .returned (.bool (!false)) ∧ w = w'))
  simp only [Bool.not_true, Bool.not_false] at HC
  clear h3
  have K0 := hid (h.start i)
  have HT := hid (h.tab.new (boxes_new w i (pa) pc f))
  have HL := hid h.len
  have HS := hid (itoa_size h.len.1 h.len.2)
  have hr := h.sp.room; have hr2 := h.sp.cap
  have hblt := h.xc.lt
  unfold maxLen at hr2
  have hmf : ∀ (fn : Fn) (first cap : Array Value) (w : World), (Instr.makeFunc fn first cap).run Tryz.prog w = .ok (.func fn first cap) w := fun _ _ _ _ => rfl
  clear h
  have HC9 := hid (fun (w1 : World) (_ : New (boxes w i pa pc f) w1) => And.intro trivial trivial)
  obtain ⟨pad, HP⟩ : ∃ p, Hid (f.pad = p) := ⟨_, rfl⟩
  go_enter Tryz.func140, Tryz.ntmps140
  go_wp2_with (first | (go_at_call 71; refine (itoa_any _ HL.out.1 HL.out.2 _ HT.out).mono ?_; rintro e w1 ⟨rfl, n1⟩; have K1 := hid (Ck.new K0.out n1); have P1 := hid (strs_pad w1 f.len HS.out); obtain ⟨c9, c10⟩ := HC9.out w1 n1; clear n1; obtain ⟨c0, c1, c2, c3, c4, c5, c6, c7, c8, cy, cz⟩ := K1.out.cells; rw [HP.out] at c2) | (go_at_call 31; refine (HC.out _ ?_).mono ?_; (focus (repeat (first | with_reducible exact K1.out.sp | with_reducible apply StrsAt.alloc | with_reducible apply StrsAt.drew))); rintro e w9 ⟨rfl, rfl⟩) | (go_at_call_of 160 (Value.bool true); refine (fail_raise w.heap.size i _ 3 _ ?_).mono ?_; (focus (repeat (first | with_reducible exact K1.out.xi | with_reducible apply Blk.alloc | with_reducible apply Blk.drew | with_reducible apply Blk.drewN | (with_reducible apply Blk.other; · first | (simp; done) | (simp; omega) | omega)))); rintro e w9 ⟨rfl, rfl⟩))
  exact ⟨rfl, rfl, (K1.out.alloc _).mod⟩

set_option maxRecDepth 100000 in
set_option maxHeartbeats 1000000 in
theorem file_name4 (b bm ba : Nat) (i last : Nat) (tot : Int) (pa : Option Addr) (pc : Nat) (f : FileV) (M A : List ByteArray) (w : World) (h : Ask w b bm ba pa pc f tot M A) (h1 : 1 ≤ f.path.length) (h2 : f.path.length ≤ 8) (h3 : f.path.all partOk = true) (hp : f.pad = true) (h4 : f.path ≠ padPath f.len) :
    Calls Tryz.prog 140 #[.pointer (some ⟨b, 0, none⟩), .int .i64 i, .int .i64 last, fileV pa pc f] w (Fin w b bm ba i f tot M A (some 5)) := by
  have HC := hid (fun (w : World) (h : StrsAt w pa pc f.path) => (h3 ▸ contains_any pa pc f.path w h : Calls Tryz.prog 31 #[.slice pa f.path.length pc, .func (.func 161) #[] #[]] w fun e w' => e = .returned (.bool (!true)) ∧ w = w'))
  simp only [Bool.not_true, Bool.not_false] at HC
  have h4' := decide_eq_false h4
  have HE := hid (fun (w : World) (a2 : Option Addr) (h : StrsAt w pa pc f.path) (h2 : StrsAt w a2 2 (padPath f.len)) => (h4' ▸ equal_any pa a2 pc 2 f.path (padPath f.len) w h h2 : Calls Tryz.prog 163 #[.slice pa f.path.length pc, .slice a2 2 2] w fun e w' => e = .returned (.bool false) ∧ New w w'))
  clear h3 h4 h4'
  have K0 := hid (h.start i)
  have HT := hid (h.tab.new (boxes_new w i (pa) pc f))
  have HL := hid h.len
  have HS := hid (itoa_size h.len.1 h.len.2)
  have hr := h.sp.room; have hr2 := h.sp.cap
  have hblt := h.xc.lt
  unfold maxLen at hr2
  have hmf : ∀ (fn : Fn) (first cap : Array Value) (w : World), (Instr.makeFunc fn first cap).run Tryz.prog w = .ok (.func fn first cap) w := fun _ _ _ _ => rfl
  clear h
  have HC9 := hid (fun (w1 : World) (_ : New (boxes w i pa pc f) w1) => And.intro trivial trivial)
  have HP : Hid (f.pad = true) := hid hp
  clear hp
  go_enter Tryz.func140, Tryz.ntmps140
  go_wp2_with (first | (go_at_call 71; refine (itoa_any _ HL.out.1 HL.out.2 _ HT.out).mono ?_; rintro e w1 ⟨rfl, n1⟩; have K1 := hid (Ck.new K0.out n1); have P1 := hid (strs_pad w1 f.len HS.out); obtain ⟨c9, c10⟩ := HC9.out w1 n1; clear n1; obtain ⟨c0, c1, c2, c3, c4, c5, c6, c7, c8, cy, cz⟩ := K1.out.cells; rw [HP.out] at c2) | (go_at_call 31; refine (HC.out _ ?_).mono ?_; (focus (repeat (first | with_reducible exact K1.out.sp | with_reducible apply StrsAt.alloc | with_reducible apply StrsAt.drew))); rintro e w9 ⟨rfl, rfl⟩) | (go_at_call 163; refine (HE.out _ _ ?_ ?_).mono ?_; (focus (repeat (first | with_reducible exact K1.out.sp | with_reducible apply StrsAt.alloc | with_reducible apply StrsAt.drew))); (focus (repeat (first | with_reducible exact P1.out | with_reducible apply StrsAt.alloc | with_reducible apply StrsAt.drew))); rintro e w2 ⟨rfl, n2⟩; have K2 := hid (Ck.new (K1.out.alloc _) n2); clear n2; obtain ⟨d0, d1, d2, d3, d4, d5, d6, d7, d8, dy, dz⟩ := K2.out.cells; rw [HP.out] at d2) | (go_at_call_of 160 (Value.bool true); refine (fail_raise w.heap.size i _ 3 _ ?_).mono ?_; (focus (repeat (first | with_reducible exact K2.out.xi | with_reducible apply Blk.alloc | with_reducible apply Blk.drew | with_reducible apply Blk.drewN | (with_reducible apply Blk.other; · first | (simp; done) | (simp; omega) | omega)))); rintro e w9 ⟨rfl, rfl⟩))
  exact ⟨rfl, rfl, K2.out.mod⟩

set_option maxRecDepth 100000 in
set_option maxHeartbeats 1000000 in
theorem file_name5 (b bm ba : Nat) (i last : Nat) (tot : Int) (pa : Option Addr) (pc : Nat) (f : FileV) (M A : List ByteArray) (w : World) (h : Ask w b bm ba pa pc f tot M A) (h1 : 1 ≤ f.path.length) (h2 : f.path.length ≤ 8) (h3 : f.path.all partOk = true) (hp : f.pad = false) (h4 : ∃ p0, f.path.head? = some p0 ∧ (p0.toList == [46, 112, 97, 100]) = true) :
    Calls Tryz.prog 140 #[.pointer (some ⟨b, 0, none⟩), .int .i64 i, .int .i64 last, fileV pa pc f] w (Fin w b bm ba i f tot M A (some 5)) := by
  have HC := hid (fun (w : World) (h : StrsAt w pa pc f.path) => (h3 ▸ contains_any pa pc f.path w h : Calls Tryz.prog 31 #[.slice pa f.path.length pc, .func (.func 161) #[] #[]] w fun e w' => e = .returned (.bool (!true)) ∧ w = w'))
  simp only [Bool.not_true, Bool.not_false] at HC
  clear h3
  obtain ⟨p0, hp0, h4⟩ := h4
  obtain ⟨pb, po, rfl, hpb, hpc⟩ := h.sp.get (by omega)
  have hc9 : w.cell? ⟨pb, po, none⟩ = some (.string p0) := by
    have := hpc 0 (by omega)
    rw [List.head?_eq_getElem?, List.getElem?_eq_getElem (by omega)] at hp0
    simp at hp0
    rw [← hp0]
    exact this
  have HC9 := hid (fun (w1 : World) (n : New (boxes w i (some ⟨pb, po, none⟩) pc f) w1) => And.intro (n.cellv ((boxes_new w i (some ⟨pb, po, none⟩) pc f).cellv hc9)) (Nat.lt_of_lt_of_le hpb ((boxes_new w i (some ⟨pb, po, none⟩) pc f).trans n).size))
  clear hp0 hpc hc9
  have K0 := hid (h.start i)
  have HT := hid (h.tab.new (boxes_new w i (some ⟨pb, po, none⟩) pc f))
  have HL := hid h.len
  have HS := hid (itoa_size h.len.1 h.len.2)
  have hr := h.sp.room; have hr2 := h.sp.cap
  have hblt := h.xc.lt
  unfold maxLen at hr2
  have hmf : ∀ (fn : Fn) (first cap : Array Value) (w : World), (Instr.makeFunc fn first cap).run Tryz.prog w = .ok (.func fn first cap) w := fun _ _ _ _ => rfl
  clear h
  have HP : Hid (f.pad = false) := hid hp
  clear hp
  go_enter Tryz.func140, Tryz.ntmps140
  go_wp2_with (first | (go_at_call 71; refine (itoa_any _ HL.out.1 HL.out.2 _ HT.out).mono ?_; rintro e w1 ⟨rfl, n1⟩; have K1 := hid (Ck.new K0.out n1); have P1 := hid (strs_pad w1 f.len HS.out); obtain ⟨c9, c10⟩ := HC9.out w1 n1; clear n1; obtain ⟨c0, c1, c2, c3, c4, c5, c6, c7, c8, cy, cz⟩ := K1.out.cells; rw [HP.out] at c2) | (go_at_call 31; refine (HC.out _ ?_).mono ?_; (focus (repeat (first | with_reducible exact K1.out.sp | with_reducible apply StrsAt.alloc | with_reducible apply StrsAt.drew))); rintro e w9 ⟨rfl, rfl⟩) | (go_at_call_of 160 (Value.bool true); refine (fail_raise w.heap.size i _ 3 _ ?_).mono ?_; (focus (repeat (first | with_reducible exact K1.out.xi | with_reducible apply Blk.alloc | with_reducible apply Blk.drew | with_reducible apply Blk.drewN | (with_reducible apply Blk.other; · first | (simp; done) | (simp; omega) | omega)))); rintro e w9 ⟨rfl, rfl⟩))
  exact ⟨rfl, rfl, (K1.out.alloc _).mod⟩

end Go.Proofs.YtnhgichiedninaaGreatDoor
