/-
  Several texts in one, in their build order. The walk of (*check).file: the faults of a name. Conditions: the check's two sets and the file lie as told.
-/
import Derived.Test.YtnhgichiedninaaGreatDoorM21
namespace Go.Proofs.YtnhgichiedninaaGreatDoor
set_option linter.unusedSimpArgs false
set_option linter.unusedVariables false
open Go.RowKit

set_option maxRecDepth 100000 in
set_option maxHeartbeats 1000000 in
theorem file_name1 (b bm ba : Nat) (i last : Nat) (tot : Int) (pa : Option Addr) (pc : Nat) (f : FileV) (M A : List ByteArray) (w : World) (h : Ask w b bm ba pa pc f tot M A) (h1 : f.path.length < 1) :
    Calls Tryz.prog 140 #[.pointer (some ⟨b, 0, none⟩), .int .i64 i, .int .i64 last, fileV pa pc f] w (Fin w b bm ba i f tot M A (some 5)) := by
  have K0 := hid (h.start i)
  have HT := hid (h.tab.new (boxes_new w i (pa) pc f))
  have HL := hid h.len
  have HS := hid (itoa_size h.len.1 h.len.2)
  have hr := h.sp.room; have hr2 := h.sp.cap
  have hblt := h.xc.lt
  unfold maxLen at hr2
  have hmf : ∀ (fn : Fn) (first cap : Array Value) (w : World), (Instr.makeFunc fn first cap).run Tryz.prog w = .ok (.func fn first cap) w := fun _ _ _ _ => rfl
  clear h
  have HC9 := hid (fun (w1 : World) (_ : New (boxes w i pa pc f) w1) => trivial)
  obtain ⟨pad, HP⟩ : ∃ p, Hid (f.pad = p) := ⟨_, rfl⟩
  go_enter Tryz.func140, Tryz.ntmps140
  go_wp2_with (first | (go_at_call 71; refine (itoa_any _ HL.out.1 HL.out.2 _ HT.out).mono ?_; rintro e w1 ⟨rfl, n1⟩; have K1 := hid (Ck.new K0.out n1); have P1 := hid (strs_pad w1 f.len HS.out); obtain ⟨c9, c10⟩ := HC9.out w1 n1; clear n1; obtain ⟨c0, c1, c2, c3, c4, c5, c6, c7, c8, cy, cz⟩ := K1.out.cells; rw [HP.out] at c2) | (go_at_call_of 160 (Value.bool true); refine (fail_raise w.heap.size i _ 3 _ ?_).mono ?_; (focus (repeat (first | with_reducible exact K1.out.xi | with_reducible apply Blk.alloc | with_reducible apply Blk.drew | with_reducible apply Blk.drewN | (with_reducible apply Blk.other; · first | (simp; done) | (simp; omega) | omega)))); rintro e w9 ⟨rfl, rfl⟩))
  exact ⟨rfl, rfl, (K1.out.alloc _).mod⟩
set_option maxRecDepth 100000 in
set_option maxHeartbeats 1000000 in
theorem file_name2 (b bm ba : Nat) (i last : Nat) (tot : Int) (pa : Option Addr) (pc : Nat) (f : FileV) (M A : List ByteArray) (w : World) (h : Ask w b bm ba pa pc f tot M A) (h1 : 8 < f.path.length) :
    Calls Tryz.prog 140 #[.pointer (some ⟨b, 0, none⟩), .int .i64 i, .int .i64 last, fileV pa pc f] w (Fin w b bm ba i f tot M A (some 5)) := by
  have K0 := hid (h.start i)
  have HT := hid (h.tab.new (boxes_new w i (pa) pc f))
  have HL := hid h.len
  have HS := hid (itoa_size h.len.1 h.len.2)
  have hr := h.sp.room; have hr2 := h.sp.cap
  have hblt := h.xc.lt
  unfold maxLen at hr2
  have hmf : ∀ (fn : Fn) (first cap : Array Value) (w : World), (Instr.makeFunc fn first cap).run Tryz.prog w = .ok (.func fn first cap) w := fun _ _ _ _ => rfl
  clear h
  have HC9 := hid (fun (w1 : World) (_ : New (boxes w i pa pc f) w1) => And.intro trivial trivial)
  obtain ⟨pad, HP⟩ : ∃ p, Hid (f.pad = p) := ⟨_, rfl⟩
  go_enter Tryz.func140, Tryz.ntmps140
  go_wp2_with (first | (go_at_call 71; refine (itoa_any _ HL.out.1 HL.out.2 _ HT.out).mono ?_; rintro e w1 ⟨rfl, n1⟩; have K1 := hid (Ck.new K0.out n1); have P1 := hid (strs_pad w1 f.len HS.out); obtain ⟨c9, c10⟩ := HC9.out w1 n1; clear n1; obtain ⟨c0, c1, c2, c3, c4, c5, c6, c7, c8, cy, cz⟩ := K1.out.cells; rw [HP.out] at c2) | (go_at_call_of 160 (Value.bool true); refine (fail_raise w.heap.size i _ 3 _ ?_).mono ?_; (focus (repeat (first | with_reducible exact K1.out.xi | with_reducible apply Blk.alloc | with_reducible apply Blk.drew | with_reducible apply Blk.drewN | (with_reducible apply Blk.other; · first | (simp; done) | (simp; omega) | omega)))); rintro e w9 ⟨rfl, rfl⟩))
  exact ⟨rfl, rfl, (K1.out.alloc _).mod⟩

set_option maxRecDepth 100000 in
set_option maxHeartbeats 1000000 in
theorem file_name3 (b bm ba : Nat) (i last : Nat) (tot : Int) (pa : Option Addr) (pc : Nat) (f : FileV) (M A : List ByteArray) (w : World) (h : Ask w b bm ba pa pc f tot M A) (h1 : 1 ≤ f.path.length) (h2 : f.path.length ≤ 8) (h3 : f.path.all partOk = false) :
    Calls Tryz.prog 140 #[.pointer (some ⟨b, 0, none⟩), .int .i64 i, .int .i64 last, fileV pa pc f] w (Fin w b bm ba i f tot M A (some 5)) := by
  have HC := hid (fun (w : World) (h : StrsAt w pa pc f.path) => (h3 ▸ contains_any pa pc f.path w h : Calls Tryz.prog 31 #[.slice pa f.path.length pc, .func (.func 161) #[] #[]] w fun e w' => e = .returned (.bool (!false)) ∧ w = w'))
  simp only [Bool.not_true, Bool.not_false] at HC
  clear h3
  have K0 := hid (h.start i)
  have HT := hid (h.tab.new (boxes_new w i (pa) pc f))
  have HL := hid h.len
  have HS := hid (itoa_size h.len.1 h.len.2)
  have hr := h.sp.room; have hr2 := h.sp.cap
  have hblt := h.xc.lt
  unfold maxLen at hr2
  have hmf : ∀ (fn : Fn) (first cap : Array Value) (w : World), (Instr.makeFunc fn first cap).run Tryz.prog w = .ok (.func fn first cap) w := fun _ _ _ _ => rfl
  clear h
  have HC9 := hid (fun (w1 : World) (_ : New (boxes w i pa pc f) w1) => And.intro trivial trivial)
  obtain ⟨pad, HP⟩ : ∃ p, Hid (f.pad = p) := ⟨_, rfl⟩
  go_enter Tryz.func140, Tryz.ntmps140
  go_wp2_with (first | (go_at_call 71; refine (itoa_any _ HL.out.1 HL.out.2 _ HT.out).mono ?_; rintro e w1 ⟨rfl, n1⟩; have K1 := hid (Ck.new K0.out n1); have P1 := hid (strs_pad w1 f.len HS.out); obtain ⟨c9, c10⟩ := HC9.out w1 n1; clear n1; obtain ⟨c0, c1, c2, c3, c4, c5, c6, c7, c8, cy, cz⟩ := K1.out.cells; rw [HP.out] at c2) | (go_at_call 31; refine (HC.out _ ?_).mono ?_; (focus (repeat (first | with_reducible exact K1.out.sp | with_reducible apply StrsAt.alloc | with_reducible apply StrsAt.drew))); rintro e w9 ⟨rfl, rfl⟩) | (go_at_call_of 160 (Value.bool true); refine (fail_raise w.heap.size i _ 3 _ ?_).mono ?_; (focus (repeat (first | with_reducible exact K1.out.xi | with_reducible apply Blk.alloc | with_reducible apply Blk.drew | with_reducible apply Blk.drewN | (with_reducible apply Blk.other; · first | (simp; done) | (simp; omega) | omega)))); rintro e w9 ⟨rfl, rfl⟩))
  exact ⟨rfl, rfl, (K1.out.alloc _).mod⟩

set_option maxRecDepth 100000 in
set_option maxHeartbeats 1000000 in
theorem file_name4 (b bm ba : Nat) (i last : Nat) (tot : Int) (pa : Option Addr) (pc : Nat) (f : FileV) (M A : List ByteArray) (w : World) (h : Ask w b bm ba pa pc f tot M A) (h1 : 1 ≤ f.path.length) (h2 : f.path.length ≤ 8) (h3 : f.path.all partOk = true) (hp : f.pad = true) (h4 : f.path ≠ padPath f.len) :
    Calls Tryz.prog 140 #[.pointer (some ⟨b, 0, none⟩), .int .i64 i, .int .i64 last, fileV pa pc f] w (Fin w b bm ba i f tot M A (some 5)) := by
  have HC := hid (fun (w : World) (h : StrsAt w pa pc f.path) => (h3 ▸ contains_any pa pc f.path w h : Calls Tryz.prog 31 #[.slice pa f.path.length pc, .func (.func 161) #[] #[]] w fun e w' => e = .returned (.bool (!true)) ∧ w = w'))
  simp only [Bool.not_true, Bool.not_false] at HC
  have h4' := decide_eq_false h4
  have HE := hid (fun (w : World) (a2 : Option Addr) (h : StrsAt w pa pc f.path) (h2 : StrsAt w a2 2 (padPath f.len)) => (h4' ▸ equal_any pa a2 pc 2 f.path (padPath f.len) w h h2 : Calls Tryz.prog 163 #[.slice pa f.path.length pc, .slice a2 2 2] w fun e w' => e = .returned (.bool false) ∧ New w w'))
  clear h3 h4 h4'
  have K0 := hid (h.start i)
  have HT := hid (h.tab.new (boxes_new w i (pa) pc f))
  have HL := hid h.len
  have HS := hid (itoa_size h.len.1 h.len.2)
  have hr := h.sp.room; have hr2 := h.sp.cap
  have hblt := h.xc.lt
  unfold maxLen at hr2
  have hmf : ∀ (fn : Fn) (first cap : Array Value) (w : World), (Instr.makeFunc fn first cap).run Tryz.prog w = .ok (.func fn first cap) w := fun _ _ _ _ => rfl
  clear h
  have HC9 := hid (fun (w1 : World) (_ : New (boxes w i pa pc f) w1) => And.intro trivial trivial)
  have HP : Hid (f.pad = true) := hid hp
  clear hp
  go_enter Tryz.func140, Tryz.ntmps140
  go_wp2_with (first | (go_at_call 71; refine (itoa_any _ HL.out.1 HL.out.2 _ HT.out).mono ?_; rintro e w1 ⟨rfl, n1⟩; have K1 := hid (Ck.new K0.out n1); have P1 := hid (strs_pad w1 f.len HS.out); obtain ⟨c9, c10⟩ := HC9.out w1 n1; clear n1; obtain ⟨c0, c1, c2, c3, c4, c5, c6, c7, c8, cy, cz⟩ := K1.out.cells; rw [HP.out] at c2) | (go_at_call 31; refine (HC.out _ ?_).mono ?_; (focus (repeat (first | with_reducible exact K1.out.sp | with_reducible apply StrsAt.alloc | with_reducible apply StrsAt.drew))); rintro e w9 ⟨rfl, rfl⟩) | (go_at_call 163; refine (HE.out _ _ ?_ ?_).mono ?_; (focus (repeat (first | with_reducible exact K1.out.sp | with_reducible apply StrsAt.alloc | with_reducible apply StrsAt.drew))); (focus (repeat (first | with_reducible exact P1.out | with_reducible apply StrsAt.alloc | with_reducible apply StrsAt.drew))); rintro e w2 ⟨rfl, n2⟩; have K2 := hid (Ck.new (K1.out.alloc _) n2); clear n2; obtain ⟨d0, d1, d2, d3, d4, d5, d6, d7, d8, dy, dz⟩ := K2.out.cells; rw [HP.out] at d2) | (go_at_call_of 160 (Value.bool true); refine (fail_raise w.heap.size i _ 3 _ ?_).mono ?_; (focus (repeat (first | with_reducible exact K2.out.xi | with_reducible apply Blk.alloc | with_reducible apply Blk.drew | with_reducible apply Blk.drewN | (with_reducible apply Blk.other; · first | (simp; done) | (simp; omega) | omega)))); rintro e w9 ⟨rfl, rfl⟩))
  exact ⟨rfl, rfl, K2.out.mod⟩

set_option maxRecDepth 100000 in
set_option maxHeartbeats 1000000 in
theorem file_name5 (b bm ba : Nat) (i last : Nat) (tot : Int) (pa : Option Addr) (pc : Nat) (f : FileV) (M A : List ByteArray) (w : World) (h : Ask w b bm ba pa pc f tot M A) (h1 : 1 ≤ f.path.length) (h2 : f.path.length ≤ 8) (h3 : f.path.all partOk = true) (hp : f.pad = false) (h4 : ∃ p0, f.path.head? = some p0 ∧ (p0.toList == [46, 112, 97, 100]) = true) :
    Calls Tryz.prog 140 #[.pointer (some ⟨b, 0, none⟩), .int .i64 i, .int .i64 last, fileV pa pc f] w (Fin w b bm ba i f tot M A (some 5)) := by
  have HC := hid (fun (w : World) (h : StrsAt w pa pc f.path) => (h3 ▸ contains_any pa pc f.path w h : Calls Tryz.prog 31 #[.slice pa f.path.length pc, .func (.func 161) #[] #[]] w fun e w' => e = .returned (.bool (!true)) ∧ w = w'))
  simp only [Bool.not_true, Bool.not_false] at HC
  clear h3
  obtain ⟨p0, hp0, h4⟩ := h4
  obtain ⟨pb, po, rfl, hpb, hpc⟩ := h.sp.get (by omega)
  have hc9 : w.cell? ⟨pb, po, none⟩ = some (.string p0) := by
    have := hpc 0 (by omega)
    rw [List.head?_eq_getElem?, List.getElem?_eq_getElem (by omega)] at hp0
    simp at hp0
    rw [← hp0]
    exact this
  have HC9 := hid (fun (w1 : World) (n : New (boxes w i (some ⟨pb, po, none⟩) pc f) w1) => And.intro (n.cellv ((boxes_new w i (some ⟨pb, po, none⟩) pc f).cellv hc9)) (Nat.lt_of_lt_of_le hpb ((boxes_new w i (some ⟨pb, po, none⟩) pc f).trans n).size))
  clear hp0 hpc hc9
  have K0 := hid (h.start i)
  have HT := hid (h.tab.new (boxes_new w i (some ⟨pb, po, none⟩) pc f))
  have HL := hid h.len
  have HS := hid (itoa_size h.len.1 h.len.2)
  have hr := h.sp.room; have hr2 := h.sp.cap
  have hblt := h.xc.lt
  unfold maxLen at hr2
  have hmf : ∀ (fn : Fn) (first cap : Array Value) (w : World), (Instr.makeFunc fn first cap).run Tryz.prog w = .ok (.func fn first cap) w := fun _ _ _ _ => rfl
  clear h
  have HP : Hid (f.pad = false) := hid hp
  clear hp
  go_enter Tryz.func140, Tryz.ntmps140
  go_wp2_with (first | (go_at_call 71; refine (itoa_any _ HL.out.1 HL.out.2 _ HT.out).mono ?_; rintro e w1 ⟨rfl, n1⟩; have K1 := hid (Ck.new K0.out n1); have P1 := hid (strs_pad w1 f.len HS.out); obtain ⟨c9, c10⟩ := HC9.out w1 n1; clear n1; obtain ⟨c0, c1, c2, c3, c4, c5, c6, c7, c8, cy, cz⟩ := K1.out.cells; rw [HP.out] at c2) | (go_at_call 31; refine (HC.out _ ?_).mono ?_; (focus (repeat (first | with_reducible exact K1.out.sp | with_reducible apply StrsAt.alloc | with_reducible apply StrsAt.drew))); rintro e w9 ⟨rfl, rfl⟩) | (go_at_call_of 160 (Value.bool true); refine (fail_raise w.heap.size i _ 3 _ ?_).mono ?_; (focus (repeat (first | with_reducible exact K1.out.xi | with_reducible apply Blk.alloc | with_reducible apply Blk.drew | with_reducible apply Blk.drewN | (with_reducible apply Blk.other; · first | (simp; done) | (simp; omega) | omega)))); rintro e w9 ⟨rfl, rfl⟩))
  exact ⟨rfl, rfl, (K1.out.alloc _).mod⟩

end Go.Proofs.YtnhgichiedninaaGreatDoor
