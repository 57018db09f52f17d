/-
  Several texts in one, in their build order. The walks of the program's Drop and Heard (a crier). Conditions: the crier lies as told. The walk of the program's Names (a crier): slices.Sorted over the names that wait. Conditions: the crier lies as told.
-/
import Derived.Test.YtnflhjagmngimaaGreatDoorM36
import Derived.Test.YtnflhjagmngimaaGreatDoorM39
import Derived.Test.YtnflhjagmngimaaGreatDoorM38
import Derived.Test.YtnflhjagmngimaaGreatDoorM11
import Derived.Test.YtnflhjagmngimaaGreatDoorM13
import Derived.Test.YtnflhjagmngimaaGreatDoorM12
import Derived.Test.YtnflhjagmngimaaGreatDoorM18
namespace Go.Proofs.YtnflhjagmngimaaGreatDoor
set_option linter.unusedSimpArgs false
set_option linter.unusedVariables false
open Go.RowKit Go.Shelf

set_option maxRecDepth 100000 in
set_option maxHeartbeats 4000000 in
theorem cDrop_no (B M H : Nat) (c : CrV) (k : ByteArray) (w : World) (h : CrAt w B M H c) (hs : k.size ≤ maxLen) (hno : c.dropE k ≠ 0) :
    Calls Tryz.prog 20 #[.pointer (some ⟨B, 0, none⟩), .string k] w fun e w' => e = .returned (.int .i64 (c.dropE k)) ∧ New w w' := by
  have HASK := hid (fun w => asked_any B k w hs)
  have c4 : w.cell? ⟨B, 4, none⟩ = some (.map (some M)) := h.row.cellv 4 rfl
  have cl := h.row.lt
  have lk := h.names.look2 k
  unfold CrV.dropE at hno ⊢
  unfold askE at HASK
  by_cases g : k.size = 20
  · rw [if_pos g] at HASK hno ⊢
    cases hi : inB c.all k with
    | true => rw [hi, if_pos rfl] at hno; exact absurd rfl hno
    | false =>
      rw [hi] at lk
      clear h hno hi
      go_enter Tryz.func20, Tryz.ntmps20
      go_wp2_with fail
      refine (HASK.out _).mono ?_
      rintro e w1 ⟨rfl, rfl⟩
      go_wp2_with fail
      go_ret
      exact ⟨rfl, Mod.refl _ _⟩
  · rw [if_neg g] at HASK ⊢
    clear h hno
    go_enter Tryz.func20, Tryz.ntmps20
    go_wp2_with fail
    refine (HASK.out _).mono ?_
    rintro e w1 ⟨rfl, rfl⟩
    go_wp2_with fail
    go_ret
    exact ⟨rfl, Mod.refl _ _⟩
theorem erase_filter {k : ByteArray} : ∀ (l : List ByteArray) (i : Nat), l.Nodup → l[i]? = some k → l.eraseIdx i = l.filter (fun x => !(x.data == k.data))
  | [], i, _, h => by simp at h
  | x :: l, 0, hn, h => by
    simp at h
    subst h
    have h2 := (List.nodup_cons.1 hn).1
    rw [List.eraseIdx_zero, List.tail_cons, List.filter_cons]
    simp only [beq_self_eq_true, Bool.not_true, Bool.false_eq_true, if_false]
    symm
    rw [List.filter_eq_self]
    intro y hy
    have : ¬ y.data = x.data := fun q => h2 (by rw [← ba_eq q]; exact hy)
    simpa using this
  | x :: l, i + 1, hn, h => by
    simp only [List.getElem?_cons_succ] at h
    have h2 := (List.nodup_cons.1 hn).1
    have hx : ¬ x.data = k.data := fun q => h2 (by rw [ba_eq q]; exact List.mem_of_getElem? h)
    rw [List.eraseIdx_cons_succ, erase_filter l i (List.nodup_cons.1 hn).2 h, List.filter_cons, if_pos (by simpa using hx)]
theorem map_erase {α β : Type} (f : α → β) : ∀ (l : List α) (i : Nat), (l.map f).eraseIdx i = (l.eraseIdx i).map f
  | [], i => by simp
  | x :: l, 0 => by simp
  | x :: l, i + 1 => by simp [map_erase f l i]
theorem NumsM.del {w : World} {b : Nat} {all : List ByteArray} {f : ByteArray → Int} (h : NumsM w b all f) {k : ByteArray} (hk : k ∈ all) (ty : TypeId) :
    ∃ w', (Builtin.delete_ #[60, 9] ty #[.map (some b), .string k]).run Tryz.prog w = .ok (.tuple #[]) w' ∧ NumsM w' b (all.filter (fun x => !(x.data == k.data))) (upd f k 0) ∧ Mod (· = b) w w' := by
  obtain ⟨i, hi, hi2⟩ := ents_at (f := f) hk
  obtain ⟨w', h1, h2, h3⟩ := h.map.del_at (P := Tryz.prog) Tryz.underlying60 Tryz.underlying9 (key_str k) hi2 ty
  refine ⟨w', h1, ⟨?_, fun x hx => ?_⟩, h3⟩
  · have e : (entsV all f).eraseIdx i = entsV (all.filter (fun x => !(x.data == k.data))) (upd f k 0) := by
      rw [← erase_filter all i h.nodup hi]
      unfold entsV
      rw [map_erase]
      refine List.map_congr_left (fun x hx => ?_)
      rw [erase_filter all i h.nodup hi] at hx
      have hxk : x ≠ k := fun q => by
        have := (List.mem_filter.1 hx).2
        rw [q] at this
        simp at this
      rw [upd_other f 0 hxk]
    rw [← e]
    exact h2
  · by_cases hxk : x = k
    · rw [hxk, upd_self]
    · rw [upd_other f 0 hxk]
      refine h.zero x (fun q => hx ?_)
      refine List.mem_filter.2 ⟨q, ?_⟩
      have : ¬ x.data = k.data := fun q => hxk (ba_eq q)
      simpa using this
set_option maxRecDepth 100000 in
set_option maxHeartbeats 4000000 in
theorem cDrop_yes (B M H : Nat) (c : CrV) (k : ByteArray) (w : World) (h : CrAt w B M H c) (hs : k.size ≤ maxLen) (hok : c.dropE k = 0) :
    Calls Tryz.prog 20 #[.pointer (some ⟨B, 0, none⟩), .string k] w fun e w' => e = .returned (.int .i64 0) ∧ CrAt w' B M H (c.dropC k) ∧ Mod (fun z => z = M) w w' := by
  obtain ⟨g, hin⟩ := CrV.drop_yes hok
  have HASK := hid (fun w => asked_any B k w hs)
  have c4 : w.cell? ⟨B, 4, none⟩ = some (.map (some M)) := h.row.cellv 4 rfl
  have cl := h.row.lt
  have lk := h.names.look2 k
  rw [inB_iff.2 hin] at lk
  unfold askE at HASK
  rw [if_pos g] at HASK
  have hd := fun ty => (h.names.del hin ty)
  obtain ⟨w9, hdl, hn9, hm9⟩ := hd 60
  have hdel : ∀ ty, (Builtin.delete_ #[60, 9] ty #[.map (some M), .string k]).run Tryz.prog w = .ok (.tuple #[]) w9 := fun ty => hdl
  have HN9 := hid hn9; have HM9 := hid hm9; have HC := hid h
  clear h hd hdl hn9 hm9 hok
  go_enter Tryz.func20, Tryz.ntmps20
  go_wp2_with fail
  refine (HASK.out _).mono ?_
  rintro e w1 ⟨rfl, rfl⟩
  go_wp2_with fail
  go_ret
  obtain ⟨a1, a2, a3⟩ := HC.out.apart
  exact ⟨rfl, ⟨HM9.out.blk HC.out.row (fun q => a1 q.symm), HN9.out, HC.out.hears.mod HM9.out (fun q => a3 q), HC.out.apart⟩, HM9.out⟩
/-- What Heard answers (the program). -/
def CrV.heardE (c : CrV) (t : Int) (x : AdrV) : Int := if adrOk x = false then 1 else c.atE t
set_option maxRecDepth 100000 in
set_option maxHeartbeats 4000000 in
theorem cHeard_no (B M H : Nat) (c : CrV) (t : Int) (x : AdrV) (w : World) (h : CrAt w B M H c) (hs : x.ip.size ≤ maxLen) (hno : c.heardE t x ≠ 0) :
    Calls Tryz.prog 24 #[.pointer (some ⟨B, 0, none⟩), .int .i64 t, .agg #[.int .i64 x.fam, .string x.ip, .int .i64 x.port]] w fun e w' => e = .returned (.tuple #[.int .i64 0, .int .i64 (c.heardE t x)]) ∧ New w w' := by
  obtain ⟨fam, ip, port⟩ := x
  simp only at hs ⊢
  have HV := hid (fun W => adrValid_any ⟨fam, ip, port⟩ W hs)
  simp only at HV
  have HAT := hid (fun W (n : New w W) => crAt_any B M H c t W (h.new n))
  have B0 := Blk.new w #[.int .i64 fam, .string ip, .int .i64 port] 40
  have k0 := B0.cellv 0 rfl; have k1 := B0.cellv 1 rfl; have k2 := B0.cellv 2 rfl; have kl := B0.lt
  have NA : Hid (New w (w.alloc (.cells #[.int .i64 fam, .string ip, .int .i64 port] 40))) := hid ((Mod.refl _ _).alloc _)
  have cl := h.row.lt
  unfold CrV.heardE at hno ⊢
  cases hV : adrOk ⟨fam, ip, port⟩ with
  | false =>
    rw [hV] at HV
    rw [if_pos rfl]
    clear hV hno h
    go_enter Tryz.func24, Tryz.ntmps24
    go_wp2_with (go_at_call 49; refine (HV.out _).mono ?_; rintro e w2 ⟨rfl, n2⟩; have N2 := hid n2; clear n2)
    go_ret2
    exact ⟨rfl, NA.out.trans N2.out⟩
  | true =>
    rw [hV] at HV hno
    rw [if_neg (by decide)] at hno ⊢
    obtain ⟨E, hE⟩ : ∃ E, E = c.atE t := ⟨_, rfl⟩
    rw [← hE] at HAT hno ⊢
    have e1 : (E == 0) = false := by rw [beq_eq_false_iff_ne]; exact hno
    have e2 : (E != 0) = true := by rw [bne, e1]; rfl
    clear hV hno h hE
    go_enter Tryz.func24, Tryz.ntmps24
    go_wp2_with fail
    refine (HV.out _).mono ?_
    rintro e w2 ⟨rfl, n2⟩
    have N2 := hid (NA.out.trans n2)
    have cl := Nat.lt_of_lt_of_le cl N2.out.size
    clear n2 k0 k1 k2 kl
    go_wp2_with fail
    refine (HAT.out _ N2.out).mono ?_
    rintro e w3 ⟨rfl, rfl⟩
    go_wp2_with fail
    go_ret2
    exact ⟨rfl, N2.out⟩
set_option maxRecDepth 100000 in
set_option maxHeartbeats 4000000 in
theorem cHeard_yes (B M H : Nat) (c : CrV) (t : Int) (x : AdrV) (w : World) (h : CrAt w B M H c) (ho : CrOk c) (hs : x.ip.size ≤ maxLen) (hok : c.heardE t x = 0) :
    Calls Tryz.prog 24 #[.pointer (some ⟨B, 0, none⟩), .int .i64 t, .agg #[.int .i64 x.fam, .string x.ip, .int .i64 x.port]] w fun e w' => ∃ H', e = .returned (.tuple #[.int .i64 ((c.turnC t).heard x.ip), .int .i64 0]) ∧ CrAt w' B M H' (c.turnC t) ∧ (H' = H ∨ w.heap.size ≤ H') ∧ Mod (fun z => z = B) w w' := by
  obtain ⟨fam, ip, port⟩ := x
  simp only at hs ⊢
  have hV : adrOk ⟨fam, ip, port⟩ = true := by
    unfold CrV.heardE at hok
    cases hV : adrOk ⟨fam, ip, port⟩ with
    | true => rfl
    | false => rw [hV, if_pos rfl] at hok; cases hok
  have hat : c.atE t = 0 := by
    unfold CrV.heardE at hok
    rw [hV, if_neg (by decide)] at hok
    exact hok
  obtain ⟨t0, t1⟩ := at_factsC hat
  have hnow := ho.now
  have HV := hid (fun W => adrValid_any ⟨fam, ip, port⟩ W hs)
  simp only [hV] at HV
  have HAT := hid (fun W (n : New w W) => crAt_any B M H c t W (h.new n))
  rw [hat] at HAT
  have HTU := hid (fun W (n : New w W) => turn_any B M H c t W (h.new n) (by omega))
  have K0 := hid (Blk.new w #[.int .i64 fam, .string ip, .int .i64 port] 40)
  have k0 := K0.out.cellv 0 rfl; have k1 := K0.out.cellv 1 rfl; have k2 := K0.out.cellv 2 rfl; have kl := K0.out.lt
  have NA : Hid (New w (w.alloc (.cells #[.int .i64 fam, .string ip, .int .i64 port] 40))) := hid ((Mod.refl _ _).alloc _)
  have cl := h.row.lt
  have HBL : Hid (B < w.heap.size) := hid cl
  clear hV hok h hat
  go_enter Tryz.func24, Tryz.ntmps24
  go_wp2_with fail
  refine (HV.out _).mono ?_
  rintro e w2 ⟨rfl, n2⟩
  have N2 := hid (NA.out.trans n2)
  have K2 := hid (New.blk n2 K0.out)
  have cl := Nat.lt_of_lt_of_le cl N2.out.size
  clear n2 k0 k1 k2 kl
  go_wp2_with fail
  refine (HAT.out _ N2.out).mono ?_
  rintro e w3 ⟨rfl, rfl⟩
  go_wp2_with fail
  refine (HTU.out _ N2.out).mono ?_
  rintro e w4 ⟨rfl, H', hc, hh, hm⟩
  have HC := hid hc; have HH := hid hh; have HM := hid hm
  have k1 := (hm.blk K2.out (by have := HBL.out; omega)).cellv 1 rfl
  have kl := (hm.blk K2.out (by have := HBL.out; omega)).lt
  have c7 : w4.cell? ⟨B, 7, none⟩ = some (.map (some H')) := hc.row.cellv 7 rfl
  have cl := hc.row.lt
  have lk := (hc.hears.new ((Mod.refl _ _).drew)).look ip
  obtain ⟨V, hV⟩ : ∃ V, V = (c.turnC t).heard ip := ⟨_, rfl⟩
  rw [← hV] at lk
  have HVV := hid hV
  clear hc hh hm hV
  go_wp2_with fail
  refine wp_region_held_drew (S := (fun w' => w'.cell? ⟨B, 7, none⟩ = some (.map (some H')) ∧ w'.cell? ⟨w.heap.size, 1, none⟩ = some (.string ip) ∧ (Instr.lookup 60 (.map (some H')) (.string ip) false).run Tryz.prog w' = .ok (.int .i64 V) w')) (by kernel_rfl) ⟨c7, k1, lk⟩ (fun hHeld => ?_)
  refine tk (v := ?_) 0 ?_ ?_
  rotate_left
  · intro w hSw
    (try dsimp only at hSw)
    first | (go_simp; done) | (go_simp; with_reducible rfl) | with_reducible rfl
  simp only [Act.put, List.setIfInBounds_toArray, List.set_cons_zero, List.set_cons_succ]
  refine tk (v := ?_) 1 ?_ ?_
  rotate_left
  · intro w hSw
    (try dsimp only at hSw)
    first | (go_simp; done) | (go_simp; with_reducible rfl) | with_reducible rfl
  simp only [Act.put, List.setIfInBounds_toArray, List.set_cons_zero, List.set_cons_succ]
  refine tk (v := ?_) 2 ?_ ?_
  rotate_left
  · intro w hSw
    (try dsimp only at hSw)
    first | (go_simp; done) | (go_simp; with_reducible rfl) | with_reducible rfl
  simp only [Act.put, List.setIfInBounds_toArray, List.set_cons_zero, List.set_cons_succ]
  refine tk (v := ?_) 3 ?_ ?_
  rotate_left
  · intro w hSw
    (try dsimp only at hSw)
    first | (go_simp; done) | (go_simp; with_reducible rfl) | with_reducible rfl
  simp only [Act.put, List.setIfInBounds_toArray, List.set_cons_zero, List.set_cons_succ]
  refine tk (v := ?_) 4 ?_ ?_
  rotate_left
  · intro w hSw
    (try dsimp only at hSw)
    first | (go_simp; done) | (go_simp; with_reducible rfl) | with_reducible rfl
  simp only [Act.put, List.setIfInBounds_toArray, List.set_cons_zero, List.set_cons_succ]
  refine tk (v := ?_) 5 ?_ ?_
  rotate_left
  · intro w hSw
    (try dsimp only at hSw)
    first | (go_simp; done) | (go_simp; with_reducible rfl) | with_reducible rfl
  simp only [Act.put, List.setIfInBounds_toArray, List.set_cons_zero, List.set_cons_succ]
  refine tk (v := ?_) 6 ?_ ?_
  rotate_left
  · intro w hSw
    (try dsimp only at hSw)
    first | (go_simp; done) | (go_simp; with_reducible rfl) | with_reducible rfl
  simp only [Act.put, List.setIfInBounds_toArray, List.set_cons_zero, List.set_cons_succ]
  refine tk (v := ?_) 7 ?_ ?_
  rotate_left
  · intro w hSw
    (try dsimp only at hSw)
    first | (go_simp; done) | (go_simp; with_reducible rfl) | with_reducible rfl
  simp only [Act.put, List.setIfInBounds_toArray, List.set_cons_zero, List.set_cons_succ]
  refine tk (v := ?_) 8 ?_ ?_
  rotate_left
  · intro w hSw
    (try dsimp only at hSw)
    first | (go_simp; done) | (go_simp; with_reducible rfl) | with_reducible rfl
  simp only [Act.put, List.setIfInBounds_toArray, List.set_cons_zero, List.set_cons_succ]
  refine wpAnyH_done (by kernel_rfl) ?_ _
  go_wp2
  go_ret2
  exact ⟨H', by rw [HVV.out]; rfl, HC.out.new ((Mod.refl _ _).drew), by rcases HH.out with q | q; exact .inl q; exact .inr (Nat.le_trans N2.out.size q), (New.mod N2.out).trans (Mod.drew HM.out)⟩
end Go.Proofs.YtnflhjagmngimaaGreatDoor

namespace Go.Proofs.YtnflhjagmngimaaGreatDoor
set_option linter.unusedSimpArgs false
set_option linter.unusedVariables false
open Go.RowKit Go.Shelf
attribute [local go_sem] Oper.semAt_some

theorem ot_put {w : World} {k r : Nat} {o o' : Obj} (hp : k ≠ r) (h : w.heap[k]? = some o) : (w.putObj r o').heap[k]? = some o := (World.putObj_heap_other hp).trans h
theorem ot_set {w : World} {k : Nat} {o : Obj} {p : Addr} {u : Value} (hp : k ≠ p.block) (h : w.heap[k]? = some o) : (w.setCell p u).heap[k]? = some o := (Below.heap_setCell w p u k hp).trans h
theorem ot_ne {W : World} {base : Nat} {v : Value} {l : List ByteArray} (h : OwnT W base v l) {j : Nat} {o : Obj} (hj : W.heap[j]? = some o) (hno : ∀ cur, o ≠ .cells cur 9 (0, 0)) : some j ≠ v.ownBlock := by
  rcases h.row.2 with ⟨rfl, -⟩ | ⟨g, cap, cur, rfl, -, hg, -⟩
  · simp [Value.ownBlock]
  · intro e'
    have : j = g := by simpa [Value.ownBlock] using e'
    subst this
    rw [hg] at hj
    cases hj
    exact hno cur rfl
/-- What lies about the loop of AppendSeq. -/
structure ApT (w : World) (B L D : Nat) (lo : Obj) (T : List ByteArray) (W : World) : Prop where
  box : ∃ v, Blk W B #[v] 22 ∧ OwnT W w.heap.size v T
  L : W.heap[L]? = some lo
  K : W.heap[D]? = some (.deferred (some []))
  new : New w W
set_option maxRecDepth 100000 in
set_option maxHeartbeats 4000000 in
theorem appendT_any (vb : Nat) (a : Option Addr) (cap : Nat) (U : List ByteArray) (w : World) (hbl : Blk w vb #[.slice a U.length cap] 22) (hst : StrsAt w a cap U) (hl : U.length ≤ 200) :
    Calls Tryz.prog 117 #[.slice none 0 0, .func (.func 94) #[] #[.pointer (some ⟨vb, 0, none⟩)]] w fun e w' => ∃ v, e = .returned v ∧ OwnT w' w.heap.size v U ∧ New w w' := by
  have HB := hid hbl; have HS := hid hst
  have hsm := hst.small
  have HSM := hid hsm
  clear hbl hst hsm
  refine (callsIn_wide (n := 9)).1 ?_
  refine callsIn_of_wp_marks Tryz.func117 rfl trivial ?_ rfl
  simp only [Tryz.ntmps117, List.size_toArray, List.length_cons, List.length_nil, Nat.reduceAdd, Nat.reduceSub, Array.replicate_succ, Array.replicate_zero, List.push_toArray, List.append_toArray, List.nil_append, List.cons_append]
  gi_wp2_with fail
  refine name_worldC (p := fun W => Code.wpIn _ _ _ _ _ _ W) (fun W0 hW0 => ?_)
  have hs0 : W0.heap.size = w.heap.size + 1 := by rw [hW0]; simp
  have hn0 : New w W0 := by rw [hW0]; exact (Mod.refl _ _).alloc _
  have hb0 : Blk W0 w.heap.size #[.slice none 0 0] 22 := by rw [hW0]; exact Blk.new _ _ _
  clear hW0
  refine wpIn_range rfl (by omega) (gf := 94) (lb := #[.pointer (some ⟨vb, 0, none⟩)]) rfl trivial (enters_of Tryz.func94 (by kernel_rfl) rfl) ?_
  intro fn _ rec hrec
  obtain ⟨i0, hi, hz0, hz1, hz2⟩ := info_parts info_str
  have hstart : New w ((W0.alloc (.deferred (some []))).alloc (.loop (rec .ready none))) := Mod.alloc (Mod.alloc hn0 _) _
  have hl0 : ((W0.alloc (.deferred (some []))).alloc (.loop (rec .ready none))).heap[W0.heap.size + 1]? = some (.loop (rec .ready none)) := by
    have := World.alloc_heap_new (w := W0.alloc (.deferred (some []))) (o := .loop (rec .ready none))
    rwa [World.size_alloc] at this
  have hd0 : ((W0.alloc (.deferred (some []))).alloc (.loop (rec .ready none))).heap[W0.heap.size]? = some (.deferred (some [])) := (Below.heap_alloc _ _ _ (by simp)).trans (World.alloc_heap_new W0 _)
  have hbx : Blk ((W0.alloc (.deferred (some []))).alloc (.loop (rec .ready none))) w.heap.size #[.slice none 0 0] 22 := (hb0.alloc _).alloc _
  rw [hs0] at hrec hl0 hd0 ⊢
  generalize (W0.alloc (.deferred (some []))).alloc (.loop (rec .ready none)) = W1 at *
  clear hs0 hn0 hb0 W0
  refine (values_iter a cap U vb (w.heap.size + 1 + 1) 8 (by omega) (ApT w w.heap.size (w.heap.size + 1 + 1) (w.heap.size + 1) (.loop (rec .ready none))) (fun _ => False) (fun T W h => ⟨New.blk h.new HB.out, HS.out.new h.new⟩) ?hY W1 ⟨⟨_, hbx, OwnT.nil _ _⟩, hl0, hd0, hstart⟩).mono ?fin
  case fin =>
    rintro e W ⟨hv, hA⟩
    replace hA := hA.resolve_right (fun q => q)
    obtain ⟨⟨v, hb, ho⟩, hL, hD, hnw⟩ := hA
    refine ⟨hv, hD, .inl ⟨hL, ?_⟩⟩
    have hne := ot_ne ho hL (by intro cur q; cases q)
    have hne2 := ot_ne ho hD (by intro cur q; cases q)
    refine name_worldC (p := fun W => Exit.inBlock _ _ _ _ W) (fun W5 hW5 => ?_)
    have hm5 : Mod (fun k => k = w.heap.size + 1 + 1) W W5 := by rw [hW5]; exact Mod.putObj (Mod.refl _ _) _ _ (.inl rfl)
    have hb2 : Blk W5 w.heap.size #[v] 22 := by rw [hW5]; exact Blk.putObj (by omega) hb
    have ho2 : OwnT W5 w.heap.size v U := ⟨World.ownsRow.kept ho.row (row := some (w.heap.size + 1 + 1)) ⟨hm5.os, hm5.tape, hm5.output, hm5.size, fun k hk q => hm5.block k hk (fun e => q (by rw [e]))⟩ (.inr (fun q => hne q.symm)), ho.small⟩
    have hD2 : W5.heap[w.heap.size + 1]? = some (.deferred (some [])) := by rw [hW5]; exact ot_put (by omega) hD
    have hn2 : New w W5 := hnw.trans' hm5 (fun k hk q => by omega)
    have hc2 := hb2.cellv (v := v) 0 rfl
    have hl2 := hb2.lt
    have HO := hid ho2; have HD := hid hD2; have HN := hid hn2; have HNE := hid hne2
    clear hb ho hL hD hnw hb2 ho2 hD2 hn2 hne hne2 hW5 hm5 hv hrec hstart hl0 hd0 hbx
    gi_wp2
    refine ⟨by simp, .inl ⟨_, _, rfl, run_takeDeferred HD.out, ?_⟩⟩
    have hpd : Mod (fun k => k = w.heap.size + 1) W5 (W5.putObj (w.heap.size + 1) (.deferred none)) := Mod.putObj (Mod.refl _ _) _ _ (.inl rfl)
    refine ⟨v, by simp [results, Tryz.results117, go_sem], ⟨v, rfl, ⟨World.ownsRow.kept HO.out.row (row := some (w.heap.size + 1)) ⟨hpd.os, hpd.tape, hpd.output, hpd.size, fun k hk q => hpd.block k hk (fun e => q (by rw [e]))⟩ (.inr (fun q => HNE.out q.symm)), HO.out.small⟩, HN.out.trans' hpd (fun k hk q => by omega)⟩⟩
  case hY =>
    intro T s rest W hA hT
    obtain ⟨⟨v, hb, ho⟩, hL, hD, hnw⟩ := hA
    have hsU : s ∈ U := by rw [← hT]; simp
    have hTl : T.length < 200 := by
      have := congrArg List.length hT
      rw [List.length_append, List.length_cons] at this
      omega
    have hss := HSM.out s hsU
    refine yieldAt_round hrec hL rfl trivial ?_
    have HBX := hid hb; have HO := hid ho; have HL := hid hL; have HD := hid hD; have HN := hid hnw
    have hsz := hnw.size
    have hLW : w.heap.size + 1 + 1 < W.heap.size := (Array.getElem?_eq_some_iff.1 hL).1
    clear hb ho hL hD hnw hrec hstart hl0 hd0 hbx hT hsU
    gi_wp2
    refine ⟨HL.out, ?_⟩
    refine name_worldC (p := fun W => Code.wpIn _ _ _ _ _ _ W) (fun W3 hW3 => ?_)
    have hn3 : Mod (fun k => k = w.heap.size + 1 + 1) W W3 := by rw [hW3]; exact Mod.putObj (Mod.refl _ _) _ _ (.inl rfl)
    have hb3 : Blk W3 w.heap.size #[v] 22 := hn3.blk HBX.out (by omega)
    have hl3 : W3.heap[w.heap.size + 1 + 1]? = some (.loop (rec .busy none)) := by rw [hW3]; exact World.putObj_heap_same hLW
    have hne := ot_ne HO.out HL.out (by intro cur q; cases q)
    have ho3 : OwnT W3 w.heap.size v T := ⟨World.ownsRow.kept HO.out.row (row := some (w.heap.size + 1 + 1)) ⟨hn3.os, hn3.tape, hn3.output, hn3.size, fun k hk q => hn3.block k hk (fun e => q (by rw [e]))⟩ (.inr (fun q => hne q.symm)), HO.out.small⟩
    have hd3 : W3.heap[w.heap.size + 1]? = some (.deferred (some [])) := by rw [hW3]; exact ot_put (by omega) HD.out
    obtain ⟨e0, e1, e2⟩ := hb3.one
    have HD3 := hid hd3
    have HN3 := hid hn3; have HB3 := hid hb3; have HL3 := hid hl3; have HO3 := hid ho3
    obtain ⟨va, vc, rfl, hs3, -⟩ := ho3.strs
    have hr1 := hs3.room; have hr2 := hs3.cap
    unfold maxLen at hr2
    clear hW3 hn3 hb3 hl3 hne ho3 hd3 hs3
    gi_wp2_with (gi_at_builtin; refine wpListIn_append_own _ rfl _ _ 22 rfl w.heap.size 9 i0 _ 1 16 Tryz.underlying22 hi hz0 hz1 hz2 rfl (by decide) (.slice va T.length vc) T.length (T.map Value.string) rfl ?ow ⟨W3.heap.size, 0, none⟩ 1 1 [.string s] rfl rfl ?hn ?h1 ?h63 ?hby ?hba ?_)
    case ow => exact (HO3.out.new ((Mod.refl _ _).alloc _)).row
    case hn =>
      intro j u hj
      rw [add_zero]
      match j, hj with
      | 0, hj => simp at hj; subst hj; exact (Blk.newAt (by simp)).cellv 0 rfl
    case h1 => intro u hu; simp at hu; subst hu; rfl
    case h63 => unfold maxLen; omega
    case hby => omega
    case hba => have := HN3.out.size; simp; omega
    intro v' w' hr2 hg2 hne2
    have hO' := ownT_of HO3.out.small hss hr2
    have hM' := mod_grownT (HO3.out.new ((Mod.refl _ _).alloc _)) (Nat.le_refl _) ((Mod.refl (fun k => w.heap.size ≤ k) W3).alloc _) hg2
    have hnb := ot_ne HO3.out HB3.out (by intro cur q; cases q)
    have hnl := ot_ne HO3.out HL3.out (by intro cur q; cases q)
    have hnd := ot_ne HO3.out HD3.out (by intro cur q; cases q)
    have hlt3 : w.heap.size + 1 + 1 < W3.heap.size := (Array.getElem?_eq_some_iff.1 HL3.out).1
    have hB2 : Blk w' w.heap.size #[.slice va T.length vc] 22 := (HB3.out.alloc _).of_heap (hg2.block _ (by simp; omega) hnb)
    have hL2 : w'.heap[w.heap.size + 1 + 1]? = some (.loop (rec .busy none)) := (hg2.block _ (by simp; omega) hnl).trans ((Below.heap_alloc _ _ _ hlt3).trans HL3.out)
    have hD2 : w'.heap[w.heap.size + 1]? = some (.deferred (some [])) := (hg2.block _ (by simp; omega) hnd).trans ((Below.heap_alloc _ _ _ (by omega)).trans HD3.out)
    obtain ⟨z0, z1, z2⟩ := hB2.one
    obtain ⟨va2, vc2, rfl, -, -⟩ := hO'.strs
    have HB2 := hid hB2; have HL2 := hid hL2; have HD2 := hid hD2; have HO2 := hid hO'; have HM2 := hid hM'
    clear hB2 hL2 hD2 hO' hM' hr2 hg2 hne2 hnb hnl hnd e0 e1 e2
    gi_wp2
    have hle : (T ++ [s]).length = T.length + 1 := by simp
    have hms : ∀ u, Mod (fun k => k = w.heap.size) w' (w'.setCell ⟨w.heap.size, 0, none⟩ u) := fun u => Mod.set (S := fun k => k = w.heap.size) (Mod.refl _ _) ⟨w.heap.size, 0, none⟩ _ (.inl rfl)
    have hnB := ot_ne HO2.out HB2.out (by intro cur q; cases q)
    have hnL := ot_ne HO2.out HL2.out (by intro cur q; cases q)
    rw [hle] at hnB hnL
    refine ⟨ot_set (by simp; omega) HL2.out, .inl ⟨rfl, ?_⟩⟩
    have hp9 : ∀ W, Mod (fun k => k = w.heap.size + 1 + 1) W (W.putObj (w.heap.size + 1 + 1) (.loop (rec .ready none))) := fun W => Mod.putObj (Mod.refl _ _) _ _ (.inl rfl)
    have hOs : ∀ u, OwnT (w'.setCell ⟨w.heap.size, 0, none⟩ u) w.heap.size (.slice va2 (T.length + 1) vc2) (T ++ [s]) := fun u => ⟨World.ownsRow.kept (hle ▸ HO2.out.row : w'.ownsRow w.heap.size 9 1 (.slice va2 (T.length + 1) vc2) (T ++ [s]).length ((T ++ [s]).map Value.string)) (row := some w.heap.size) ⟨(hms u).os, (hms u).tape, (hms u).output, (hms u).size, fun k hk q => (hms u).block k hk (fun e => q (by rw [e]))⟩ (.inr (fun q => hnB q.symm)), HO2.out.small⟩
    refine ⟨⟨_, Blk.putObj (by omega) (HB2.out.set 0 _), ⟨World.ownsRow.kept (hOs _).row (row := some (w.heap.size + 1 + 1)) ⟨(hp9 _).os, (hp9 _).tape, (hp9 _).output, (hp9 _).size, fun k hk q => (hp9 _).block k hk (fun e => q (by rw [e]))⟩ (.inr (fun q => hnL q.symm)), HO2.out.small⟩⟩, World.putObj_heap_same (by simp; exact (Array.getElem?_eq_some_iff.1 HL2.out).1), ot_put (by omega) (ot_set (by simp) HD2.out), ?_⟩
    exact (((HN.out.trans' HN3.out (fun k hk q => by omega)).trans' HM2.out (fun k hk q => by omega)).trans' (hms _) (fun k hk q => by omega)).trans' (hp9 _) (fun k hk q => by omega)
set_option maxRecDepth 100000 in
set_option maxHeartbeats 4000000 in
theorem collectT_any (vb : Nat) (a : Option Addr) (cap : Nat) (U : List ByteArray) (w : World) (hbl : Blk w vb #[.slice a U.length cap] 22) (hst : StrsAt w a cap U) (hl : U.length ≤ 200) :
    Calls Tryz.prog 87 #[.func (.func 94) #[] #[.pointer (some ⟨vb, 0, none⟩)]] w fun e w' => ∃ v, e = .returned v ∧ OwnT w' w.heap.size v U ∧ New w w' := by
  have HA := hid (appendT_any vb a cap U w hbl hst hl)
  clear hbl hst
  go_enter Tryz.func87, Tryz.ntmps87
  go_wp2_with fail
  refine HA.out.mono ?_
  rintro e w1 ⟨v, rfl, ho, hn⟩
  have HO := hid ho; have HN := hid hn
  clear ho hn
  go_wp2_with fail
  go_ret
  exact ⟨v, rfl, HO.out, HN.out⟩
set_option maxRecDepth 100000 in
set_option maxHeartbeats 4000000 in
theorem sortedT_any (vb : Nat) (a : Option Addr) (cap : Nat) (U : List ByteArray) (w : World) (hbl : Blk w vb #[.slice a U.length cap] 22) (hst : StrsAt w a cap U) (hl : U.length ≤ 200) :
    Calls Tryz.prog 62 #[.func (.func 94) #[] #[.pointer (some ⟨vb, 0, none⟩)]] w fun e w' => ∃ a' c', e = .returned (.slice a' (sortB U).length c') ∧ StrsAt w' a' c' (sortB U) ∧ New w w' := by
  have HA := hid (collectT_any vb a cap U w hbl hst hl)
  clear hbl hst
  go_enter Tryz.func62, Tryz.ntmps62
  go_wp2_with fail
  refine HA.out.mono ?_
  rintro e w1 ⟨v, rfl, ho, hn⟩
  have HN := hid hn
  have HS := hid (sortT_any w.heap.size v U w1 ho (by omega))
  clear ho hn
  go_wp2_with fail
  refine HS.out.mono ?_
  rintro e w2 ⟨rfl, a2, c2, hv2, hs2, hb2, m2⟩
  have HS2 := hid hs2; have M2 := hid m2
  subst hv2
  clear hs2 hb2 m2
  go_wp2_with fail
  go_ret
  exact ⟨a2, c2, rfl, HS2.out, HN.out.trans' M2.out (fun k hk q => by omega)⟩
set_option maxRecDepth 100000 in
set_option maxHeartbeats 4000000 in
theorem cNames_any (B M H : Nat) (c : CrV) (w : World) (h : CrAt w B M H c) (ho : CrOk c) :
    Calls Tryz.prog 29 #[.pointer (some ⟨B, 0, none⟩)] w fun e w' => ∃ a' c', e = .returned (.slice a' (sortB c.all).length c') ∧ StrsAt w' a' c' (sortB c.all) ∧ New w w' := by
  have HW := hid (waiting_any B M H c w h ho)
  have hfew := ho.few
  clear h ho
  go_enter Tryz.func29, Tryz.ntmps29
  go_wp2_with fail
  refine HW.out.mono ?_
  rintro e w1 ⟨vb, U, a, cap, rfl, hvb, hst, hp, -, n1, -, -⟩
  have N1 := hid n1
  have HS := hid (sortedT_any vb a cap U w1 hvb hst (by have := hp.length_eq; omega))
  have HSB := hid (show sortB U = sortB c.all by
    refine bytes_inj ?_
    rw [bytes_sort, bytes_sort]
    refine List.Perm.eq_of_pairwise (le := fun x y => leY x y = true) (fun a b _ _ h1 h2 => leY_anti h1 h2) (List.pairwise_mergeSort leY_trans leY_total _) (List.pairwise_mergeSort leY_trans leY_total _) ?_
    exact ((List.mergeSort_perm _ _).trans (hp.map _)).trans (List.mergeSort_perm _ _).symm)
  rw [HSB.out] at HS
  clear hvb hst hp n1
  go_wp2_with fail
  refine HS.out.mono ?_
  rintro e w2 ⟨a', c', rfl, hs, n2⟩
  have HS2 := hid hs; have N2 := hid n2
  clear hs n2
  go_wp2_with fail
  go_ret
  exact ⟨a', c', rfl, HS2.out, N1.out.trans N2.out⟩
end Go.Proofs.YtnflhjagmngimaaGreatDoor
