/-
  Several texts in one, in their build order. The reference's part: the switch over keys, names and addresses. Conditions: the reader lies as told and is right; the text is small.
-/
import Derived.Test.YtbgmkplpolgebaaGreatDoorM42
namespace Go.Proofs.YtbgmkplpolgebaaGreatDoor
set_option linter.unusedSimpArgs false
set_option linter.unusedVariables false
open Go.RowKit Go.Shelf

theorem op_appendM {P : Program} {o : Oper} {a : Act} {K : Act → World → Prop} {Q : Exit → Act → World → Prop} {w w' : World} {v vs vx : Value} (s x : Operand) (t : TypeId)
    (ho : o.op = .call { callee := .builtin .append, args := #[s, x], argTypes := #[t, t] }) (hs : a.eval s = vs) (hx : a.eval x = vx) (hr : (Builtin.append_ #[t, t] o.type #[vs, vx]).run P w = .ok v w') (h : K (a.put o.dst v) w') : o.wp P a w K Q := by
  unfold Oper.wp execOp
  simp only [ho, resolve, invoke, builtin, Sem.run_bind, Sem.run_pure, Result.andThen_ok, List.map_toArray, List.map_cons, List.map_nil, hs, hx, hr]
  exact h
/-- An address noted: what append leaves. -/
theorem adr_append {W : World} {base : Nat} {v : Value} {l : List AdrV} (h : OwnA W base v l) (hl : l.length < 1000000) (hb : base ≤ W.heap.size) (a : AdrV) :
    ∃ (oa : Option Addr) (oc : Nat) (W' : World), (Builtin.append_ #[24, 24] 24 #[v, .slice (some ⟨W.heap.size, 0, none⟩) 1 1]).run Tryz.prog (W.alloc (.cells #[.int .i64 a.fam, .string a.ip, .int .i64 a.port] 64)) = .ok (.slice oa (l.length + 1) oc) W' ∧
      OwnA W' base (.slice oa (l.length + 1) oc) (l ++ [a]) ∧ (W.alloc (.cells #[.int .i64 a.fam, .string a.ip, .int .i64 a.port] 64)).grownBy W' v.ownBlock ∧ ((Value.slice oa (l.length + 1) oc).ownBlock = v.ownBlock ∨ ∃ g, (Value.slice oa (l.length + 1) oc).ownBlock = some g ∧ W.heap.size ≤ g) := by
  obtain ⟨i0, hi, hz0, hz1, hz2⟩ := info_parts info_adrM
  obtain ⟨v', w', hr, h2, h3, -, h5⟩ := run_append_own_at (P := Tryz.prog) (W.alloc (.cells #[.int .i64 a.fam, .string a.ip, .int .i64 a.port] 64)) base 24 24 64 i0 _ 3 32 Tryz.underlying24 hi hz0 hz1 hz2 rfl (by decide)
    v l.length (adrRow l) (h.new ((Mod.refl _ _).alloc _)).row ⟨W.heap.size, 0, none⟩ 1 1 [.int .i64 a.fam, .string a.ip, .int .i64 a.port] rfl (three_newM W _ rfl _ _ _ _) (by intro u hu; simp at hu; rcases hu with rfl | rfl | rfl <;> rfl) (by unfold maxLen; omega) (by omega) (by simp; omega)
  obtain ⟨oa, oc, rfl⟩ : ∃ oa oc, v' = .slice oa (l.length + 1) oc := by
    rcases h2.2 with ⟨e, hz⟩ | ⟨g9, cap9, cur9, e, -⟩
    · omega
    · exact ⟨_, _, e⟩
  refine ⟨oa, oc, w', hr, ownA_of h2, h3, ?_⟩
  rcases h5 with q | q
  · exact .inl q
  · exact .inr ⟨_, q, by simp⟩
theorem keyB {K c : ByteArray} : (K.toList == c.data.toList) = decide (K.data.toList = c.data.toList) := by rw [ByteArray.toList_eq]; exact Bool.eq_iff_iff.2 (by simp)
/-- One part handed on to a function that answers as 'part' does. -/
theorem nameM_1 {m : MgV} {s : List UInt8} (h : loose s = none) : nameM m s = .error 2 := by unfold nameM; rw [h]
theorem nameM_2 {m : MgV} {s x : List UInt8} (h : loose s = some x) (hl : 100 < x.length) : nameM m s = .error 2 := by unfold nameM; rw [h]; simp only; rw [if_pos hl]
theorem nameM_3 {m : MgV} {s x : List UInt8} (h : loose s = some x) (hl : ¬ 100 < x.length) (hn : m.named = true) : nameM m s = .error 6 := by unfold nameM; rw [h]; simp only; rw [if_neg hl, if_pos hn]
theorem nameM_4 {m : MgV} {s x : List UInt8} (h : loose s = some x) (hl : ¬ 100 < x.length) (hn : m.named = false) : nameM m s = .ok { m with name := mkB x, named := true } := by unfold nameM; rw [h]; simp only; rw [if_neg hl, if_neg (by rw [hn]; decide)]
set_option maxRecDepth 100000 in
set_option maxHeartbeats 4000000 in
theorem rdn_part (B base : Nat) (m : MgV) (r : RdM) (K s : ByteArray) (w : World) (hK : K = pDn) (h : RdIs 59 w B base m r) (hs : s.size ≤ 65536) :
    Calls Tryz.prog 29 #[.pointer (some ⟨B, 0, none⟩), .string K, .string s] w fun e w' => PartR B base w (nameM m s.data.toList) e w' := by
  have H := hid h
  have HUN := hid (loose_any s w (by omega))
  have HMM : Hid (∀ W, New w W → Mod (fun k => k = B ∨ base ≤ k) w W) := hid (fun W n => New.mod n)
  have hlen : s.data.toList.length = s.size := by rw [Array.length_toList]; rfl
  have e1 : (K.toList == [120, 116]) = false := by rw [hK]; decide +kernel
  have e2 : (K.toList == [100, 110]) = true := by rw [hK]; decide +kernel
  obtain ⟨X, hX⟩ : ∃ X, X = nameM m s.data.toList := ⟨_, rfl⟩
  rw [← hX]
  have HXX := hid hX
  clear h hX hK
  cases hl : loose s.data.toList with
  | none =>
    obtain ⟨f1, f2⟩ := ls_none hl
    rw [f1, f2] at HUN
    have HXN := hid (HXX.out.trans (nameM_1 hl))
    clear hl f1 f2
    go_enter Tryz.func29, Tryz.ntmps29
    go_wp2_with fail
    refine HUN.out.mono ?_
    rintro e w1 ⟨rfl, n1⟩
    have N1 := hid n1
    have H1 := hid (H.out.next n1)
    clear n1
    go_wp2_with fail
    go_ret
    exact PartR.no HXN.out (HMM.out _ N1.out)
  | some t =>
    obtain ⟨f1, f2⟩ := ls_some hl
    rw [f1, f2] at HUN
    have hle := loose_len _ s.data.toList (Nat.le_refl _) t hl
    have hTs : (⟨t.toArray⟩ : ByteArray).size = t.length := size_list t
    have HTD := hid (show (⟨t.toArray⟩ : ByteArray) = mkB t from rfl)
    obtain ⟨T, hT⟩ : ∃ T : ByteArray, T = ⟨t.toArray⟩ := ⟨_, rfl⟩
    rw [← hT] at HUN hTs HTD
    clear hT f1 f2
    by_cases hbig : 100 < t.length
    · have HXN := hid (HXX.out.trans (nameM_2 hl hbig))
      have hbI : (100 : Int) < (T.size : Int) := by omega
      have hbd : decide ((100 : Int) < (T.size : Int)) = true := decide_eq_true hbI
      clear hl hTs hbig
      go_enter Tryz.func29, Tryz.ntmps29
      go_wp2_with fail
      refine HUN.out.mono ?_
      rintro e w1 ⟨rfl, n1⟩
      have N1 := hid n1
      have H1 := hid (H.out.next n1)
      clear n1
      go_wp2_with fail
      go_ret
      exact PartR.no HXN.out (HMM.out _ N1.out)
    · have hbI : ¬ (100 : Int) < (T.size : Int) := by omega
      have hbd : decide ((100 : Int) < (T.size : Int)) = false := decide_eq_false hbI
      cases hn : m.named with
      | true =>
        have HXN := hid (HXX.out.trans (nameM_3 hl hbig hn))
        have HNM := hid (show r.named = true by rw [H.out.named, hn])
        clear hl hTs hbig hn
        go_enter Tryz.func29, Tryz.ntmps29
        go_wp2_with fail
        refine HUN.out.mono ?_
        rintro e w1 ⟨rfl, n1⟩
        have N1 := hid n1
        have H1 := hid (H.out.next n1)
        clear n1
        have b7 : w1.cell? ⟨B, 7, none⟩ = some (.bool true) := by rw [← HNM.out]; exact H1.out.blk.cellv 7 rfl
        go_wp2_with fail
        go_ret
        exact PartR.no HXN.out (HMM.out _ N1.out)
      | false =>
        have HXN := hid (HXX.out.trans (nameM_4 hl hbig hn))
        rw [← HTD.out] at HXN
        have HNM := hid (show r.named = false by rw [H.out.named, hn])
        clear hl hTs hbig hn
        go_enter Tryz.func29, Tryz.ntmps29
        go_wp2_with fail
        refine HUN.out.mono ?_
        rintro e w1 ⟨rfl, n1⟩
        have N1 := hid n1
        have H1 := hid (H.out.next n1)
        clear n1
        have b7 : w1.cell? ⟨B, 7, none⟩ = some (.bool false) := by rw [← HNM.out]; exact H1.out.blk.cellv 7 rfl
        have b2 : w1.cell? ⟨B, 2, none⟩ = some (.string r.name) := H1.out.blk.cellv 2 rfl
        have bl := H1.out.blk.lt
        have bf := H1.out.blk.frz
        go_wp2_with fail
        go_ret
        refine PartR.yes HXN.out (r := { r with name := T, named := true }) (H1.out.turn (((Mod.refl (fun k => k = B) w1).set ⟨B, 7, none⟩ (.bool true) (.inl rfl)).set ⟨B, 2, none⟩ (.string T) (.inl rfl)) (((H1.out.blk.set 7 (.bool true)).set 2 (.string T)).row rfl) rfl rfl rfl rfl rfl rfl rfl rfl H1.out.old H1.out.new rfl rfl H1.out.only) ?_
        exact ((HMM.out _ N1.out).set _ _ (.inl (.inl rfl))).set _ _ (.inl (.inl rfl))
set_option maxRecDepth 100000 in
set_option maxHeartbeats 8000000 in
theorem rpe_part (B base : Nat) (m : MgV) (r : RdM) (K s : ByteArray) (w : World) (hK : K = pPe) (h : RdIs 59 w B base m r) (hs : s.size ≤ 65536) (hbs : base ≤ w.heap.size) (hp20 : m.pe.length ≤ 20) :
    Calls Tryz.prog 29 #[.pointer (some ⟨B, 0, none⟩), .string K, .string s] w fun e w' => PartR B base w (peM m s.data.toList) e w' := by
  have H := hid h
  have HUN := hid (loose_any s w (by omega))
  have HMM : Hid (∀ W, New w W → Mod (fun k => k = B ∨ base ≤ k) w W) := hid (fun W n => New.mod n)
  have hlen : s.data.toList.length = s.size := by rw [Array.length_toList]; rfl
  have e1 : (K.toList == [120, 116]) = false := by rw [hK]; decide +kernel
  have e2 : (K.toList == [100, 110]) = false := by rw [hK]; decide +kernel
  have e3 : (K.toList == [116, 114]) = false := by rw [hK]; decide +kernel
  have e4 : (K.toList == [119, 115]) = false := by rw [hK]; decide +kernel
  have e5 : (K.toList == [120, 46, 112, 101]) = true := by rw [hK]; decide +kernel
  obtain ⟨X, hX⟩ : ∃ X, X = peM m s.data.toList := ⟨_, rfl⟩
  rw [← hX]
  have HXX := hid hX
  clear h hX hK
  cases hl : loose s.data.toList with
  | none =>
    obtain ⟨f1, f2⟩ := ls_none hl
    rw [f1, f2] at HUN
    have HXN := hid (HXX.out.trans (peM_1 hl))
    have HAP := hid (fun W => rAParse_any ⟨#[]⟩ W (by show 0 ≤ 65536; omega))
    rw [show aP (⟨#[]⟩ : ByteArray).data.toList = none from rfl, adrE] at HAP
    clear hl f1 f2
    go_enter Tryz.func29, Tryz.ntmps29
    go_wp2_with fail
    refine HUN.out.mono ?_
    rintro e w1 ⟨rfl, n1⟩
    have N1 := hid n1
    have H1 := hid (H.out.next n1)
    clear n1
    go_wp2_with fail
    refine (HAP.out _).mono ?_
    rintro e w2 ⟨rfl, n2⟩
    have N2 := hid (N1.out.trans n2)
    clear n2
    go_wp2_with fail
    go_ret
    refine PartR.no HXN.out (HMM.out _ ?_)
    have q := N2.out
    have q2 := N2.out.size
    repeat (first | with_reducible exact q | with_reducible refine Mod.alloc ?_ _ | with_reducible refine Mod.drew ?_ | with_reducible refine Mod.drewN ?_ _ | (with_reducible refine Mod.set ?_ _ _ (by first | exact .inl rfl | (right; omega) | (right; simp; done) | (right; simp; omega) | (left; omega) | (left; simp; done) | (left; simp; omega))) | (with_reducible refine Mod.putObj ?_ _ _ (by first | exact .inl rfl | (right; omega) | (right; simp; done) | (right; simp; omega) | (left; omega) | (left; simp; done) | (left; simp; omega))))
  | some t =>
    obtain ⟨f1, f2⟩ := ls_some hl
    rw [f1, f2] at HUN
    have hle := loose_len _ s.data.toList (Nat.le_refl _) t hl
    have HAP := hid (fun W => rAParse_any (mkB t) W (by rw [mkB_size]; omega))
    rw [show (mkB t).data.toList = t from rfl] at HAP
    obtain ⟨T, hT⟩ : ∃ T : ByteArray, T = ⟨t.toArray⟩ := ⟨_, rfl⟩
    rw [show mkB t = T from hT.symm] at HAP
    rw [← hT] at HUN
    clear hT f1 f2
    cases ha : aP t with
    | none =>
      rw [ha, adrE] at HAP
      have HXN := hid (HXX.out.trans (peM_2 hl ha))
      clear hl ha
      go_enter Tryz.func29, Tryz.ntmps29
      go_wp2_with fail
      refine HUN.out.mono ?_
      rintro e w1 ⟨rfl, n1⟩
      have N1 := hid n1
      have H1 := hid (H.out.next n1)
      clear n1
      go_wp2_with fail
      refine (HAP.out _).mono ?_
      rintro e w2 ⟨rfl, n2⟩
      have N2 := hid (N1.out.trans n2)
      clear n2
      go_wp2_with fail
      go_ret
      refine PartR.no HXN.out (HMM.out _ ?_)
      have q := N2.out
      have q2 := N2.out.size
      repeat (first | with_reducible exact q | with_reducible refine Mod.alloc ?_ _ | with_reducible refine Mod.drew ?_ | with_reducible refine Mod.drewN ?_ _ | (with_reducible refine Mod.set ?_ _ _ (by first | exact .inl rfl | (right; omega) | (right; simp; done) | (right; simp; omega) | (left; omega) | (left; simp; done) | (left; simp; omega))) | (with_reducible refine Mod.putObj ?_ _ _ (by first | exact .inl rfl | (right; omega) | (right; simp; done) | (right; simp; omega) | (left; omega) | (left; simp; done) | (left; simp; omega))))
    | some a =>
      rw [ha, adrE] at HAP
      by_cases hfull : 20 ≤ m.pe.length
      · have HXN := hid (HXX.out.trans (peM_3 hl ha hfull))
        have h20 : ((m.pe.length : Int) == 20) = true := by rw [beq_iff_eq]; omega
        have h20n : m.pe.length = 20 := by omega
        clear hl ha hfull hp20
        go_enter Tryz.func29, Tryz.ntmps29
        go_wp2_with fail
        refine HUN.out.mono ?_
        rintro e w1 ⟨rfl, n1⟩
        have N1 := hid n1
        have H1 := hid (H.out.next n1)
        clear n1
        go_wp2_with fail
        refine (HAP.out _).mono ?_
        rintro e w2 ⟨rfl, n2⟩
        have N2 := hid (N1.out.trans n2)
        clear n2
        have H2 := hid (H.out.next N2.out)
        obtain ⟨pa, pc, hpv⟩ := OwnA.form (l := m.pe) ⟨H2.out.pe⟩
        have HPV := hid hpv
        have b4 : ∀ W, New w2 W → W.cell? ⟨B, 4, none⟩ = some (.slice pa m.pe.length pc) := fun W n => by rw [← HPV.out]; exact (New.blk n H2.out.blk).cellv 4 rfl
        have HB4 := hid b4
        clear hpv b4
        have b4 : (w2.alloc (.cells #[.int .i64 a.fam, .string a.ip, .int .i64 a.port] 64)).cell? ⟨B, 4, none⟩ = some (.slice pa m.pe.length pc) := HB4.out _ ((Mod.refl (fun _ => False) w2).alloc _)
        go_wp2_with fail
        go_ret
        exact PartR.no HXN.out (HMM.out _ (N2.out.alloc _))
      · have HXN := hid (HXX.out.trans (peM_4 hl ha hfull))
        have h20 : ((m.pe.length : Int) == 20) = false := by rw [beq_eq_false_iff_ne]; omega
        have h20n : m.pe.length ≤ 19 := by omega
        clear hl ha hfull hp20
        go_enter Tryz.func29, Tryz.ntmps29
        go_wp2_with fail
        refine HUN.out.mono ?_
        rintro e w1 ⟨rfl, n1⟩
        have N1 := hid n1
        have H1 := hid (H.out.next n1)
        clear n1
        go_wp2_with fail
        refine (HAP.out _).mono ?_
        rintro e w2 ⟨rfl, n2⟩
        have N2 := hid (N1.out.trans n2)
        clear n2
        have H2 := hid (H.out.next N2.out)
        obtain ⟨pa, pc, hpv⟩ := OwnA.form (l := m.pe) ⟨H2.out.pe⟩
        have HPV := hid hpv
        have b4 : ∀ W, New w2 W → W.cell? ⟨B, 4, none⟩ = some (.slice pa m.pe.length pc) := fun W n => by rw [← HPV.out]; exact (New.blk n H2.out.blk).cellv 4 rfl
        have HB4 := hid b4
        clear hpv b4
        have b4 : (w2.alloc (.cells #[.int .i64 a.fam, .string a.ip, .int .i64 a.port] 64)).cell? ⟨B, 4, none⟩ = some (.slice pa m.pe.length pc) := HB4.out _ ((Mod.refl (fun _ => False) w2).alloc _)
        go_wp2_with fail
        obtain ⟨W, hW⟩ : ∃ W, W = w2.alloc (.cells #[.int .i64 a.fam, .string a.ip, .int .i64 a.port] 64) := ⟨_, rfl⟩
        rw [← hW] at b4 ⊢
        have HRW := hid (show RdIs 59 W B base m r by rw [hW]; exact H2.out.next ((Mod.refl _ _).alloc _))
        have NW : Hid (New w W) := hid (by rw [hW]; exact N2.out.alloc _)
        have BXx : Blk W w2.heap.size #[.int .i64 a.fam, .string a.ip, .int .i64 a.port] 64 := by rw [hW]; exact Blk.new _ _ _
        have BX := hid BXx
        have HBW := hid (show B < w2.heap.size from H2.out.blk.lt)
        have HPB := hid (fun k (q : r.pe.ownBlock = some k) => (rowBlock H2.out.pe q).2)
        clear hW BXx
        obtain ⟨oa, oc, W9, hrun, hown, hgr, hob⟩ := adr_append (W := W.drew) (base := base) (v := .slice pa m.pe.length pc) (l := m.pe) (by rw [← HPV.out]; exact OwnA.new ⟨HRW.out.pe⟩ (Mod.refl _ _).drew) (by omega) (Nat.le_trans hbs NW.out.drew.size) a
        rw [← HPV.out] at hgr hob
        have hm9 : Mod (fun k => r.pe.ownBlock = some k) W W9 := ((((Mod.refl (fun _ => False) W).drew.alloc (.cells #[.int .i64 a.fam, .string a.ip, .int .i64 a.port] 64)).mono (S' := fun k => r.pe.ownBlock = some k) (fun _ _ q => q.elim)).trans (mod_grownS hgr))
        have hR := RdIs.pePut HRW.out hm9 hown hob
        have HR := hid hR
        have HM9 : Hid (Mod (fun k => k = B ∨ base ≤ k) w W9) := hid ((HMM.out _ NW.out).trans (hm9.mono (fun k _ q => .inr (rowBlock HRW.out.pe q).1)))
        have BX9 := hid (hm9.blk BX.out (fun q => by have := HPB.out _ q; omega))
        have hB9 := hm9.blk HRW.out.blk (fun q => by have := (rowBlock HRW.out.pe q).1; have := HRW.out.low; omega)
        have rr4 : W9.cell? ⟨B, 4, none⟩ = some r.pe := hB9.cellv 4 rfl
        have rrl := hB9.lt; have rrf := hB9.frz 4
        have xx0 := BX.out.cellv 0 rfl; have xx1 := BX.out.cellv 1 rfl; have xx2 := BX.out.cellv 2 rfl
        have xa : ∀ o, (W.drew.alloc o).cell? ⟨w2.heap.size, 0, none⟩ = some (.int .i64 a.fam) ∧ (W.drew.alloc o).cell? ⟨w2.heap.size, 1, none⟩ = some (.string a.ip) ∧ (W.drew.alloc o).cell? ⟨w2.heap.size, 2, none⟩ = some (.int .i64 a.port) := fun o => ⟨((BX.out.drew).alloc o).cellv 0 rfl, ((BX.out.drew).alloc o).cellv 1 rfl, ((BX.out.drew).alloc o).cellv 2 rfl⟩
        have b4d : W.drew.cell? ⟨B, 4, none⟩ = some (.slice pa m.pe.length pc) := b4
        have b4a : ∀ o, (W.drew.alloc o).cell? ⟨B, 4, none⟩ = some (.slice pa m.pe.length pc) := fun o => by rw [← HPV.out]; exact ((HRW.out.blk.drew).alloc o).cellv 4 rfl
        have xx9 : W9.cell? ⟨w2.heap.size, 0, none⟩ = some (.int .i64 a.fam) ∧ W9.cell? ⟨w2.heap.size, 1, none⟩ = some (.string a.ip) ∧ W9.cell? ⟨w2.heap.size, 2, none⟩ = some (.int .i64 a.port) := ⟨BX9.out.cellv 0 rfl, BX9.out.cellv 1 rfl, BX9.out.cellv 2 rfl⟩
        have hBl := HRW.out.blk.lt
        have hBd : B < W.drew.heap.size := hBl
        have xx10 : (W9.setCell ⟨B, 4, none⟩ (.slice oa (m.pe.length + 1) oc)).cell? ⟨w2.heap.size, 0, none⟩ = some (.int .i64 a.fam) ∧ (W9.setCell ⟨B, 4, none⟩ (.slice oa (m.pe.length + 1) oc)).cell? ⟨w2.heap.size, 1, none⟩ = some (.string a.ip) ∧ (W9.setCell ⟨B, 4, none⟩ (.slice oa (m.pe.length + 1) oc)).cell? ⟨w2.heap.size, 2, none⟩ = some (.int .i64 a.port) := by
          have q := BX9.out.other (p := ⟨B, 4, none⟩) (u := .slice oa (m.pe.length + 1) oc) (by show w2.heap.size ≠ B; have := HBW.out; omega)
          exact ⟨q.cellv 0 rfl, q.cellv 1 rfl, q.cellv 2 rfl⟩
        clear hown hgr hob hm9 hR hB9
        refine wp_region_held_drew (S := (fun w' => w'.cell? ⟨w2.heap.size, 0, none⟩ = some (.int .i64 a.fam) ∧ w'.cell? ⟨w2.heap.size, 1, none⟩ = some (.string a.ip) ∧ w'.cell? ⟨w2.heap.size, 2, none⟩ = some (.int .i64 a.port))) (by kernel_rfl) ⟨xx0, xx1, xx2⟩ (fun hHeld => ?_)
        refine tk (v := ?_) 0 ?_ ?_
        rotate_left
        · intro w hSw
          (try dsimp only at hSw)
          first | (go_simp; done) | (go_simp; with_reducible rfl) | with_reducible rfl
        simp only [Act.put, List.setIfInBounds_toArray, List.set_cons_zero, List.set_cons_succ]
        refine tk (v := ?_) 1 ?_ ?_
        rotate_left
        · intro w hSw
          (try dsimp only at hSw)
          first | (go_simp; done) | (go_simp; with_reducible rfl) | with_reducible rfl
        simp only [Act.put, List.setIfInBounds_toArray, List.set_cons_zero, List.set_cons_succ]
        refine tk (v := ?_) 2 ?_ ?_
        rotate_left
        · intro w hSw
          (try dsimp only at hSw)
          first | (go_simp; done) | (go_simp; with_reducible rfl) | with_reducible rfl
        simp only [Act.put, List.setIfInBounds_toArray, List.set_cons_zero, List.set_cons_succ]
        refine tk (v := ?_) 3 ?_ ?_
        rotate_left
        · intro w hSw
          (try dsimp only at hSw)
          first | (go_simp; done) | (go_simp; with_reducible rfl) | with_reducible rfl
        simp only [Act.put, List.setIfInBounds_toArray, List.set_cons_zero, List.set_cons_succ]
        refine tk (v := ?_) 4 ?_ ?_
        rotate_left
        · intro w hSw
          (try dsimp only at hSw)
          first | (go_simp; done) | (go_simp; with_reducible rfl) | with_reducible rfl
        simp only [Act.put, List.setIfInBounds_toArray, List.set_cons_zero, List.set_cons_succ]
        refine tk (v := ?_) 6 ?_ ?_
        rotate_left
        · intro w hSw
          (try dsimp only at hSw)
          first | (go_simp; done) | (go_simp; with_reducible rfl) | with_reducible rfl
        simp only [Act.put, List.setIfInBounds_toArray, List.set_cons_zero, List.set_cons_succ]
        refine wpAnyH_ready (rs := [5, 7]) (by kernel_rfl) (by simp) ?_
        refine AllReadyH.cons (by simp only [List.getElem?_toArray, List.getElem?_cons_succ, List.getElem?_cons_zero]; rfl) (fun K hK => ?_) (AllReadyH.cons (by simp only [List.getElem?_toArray, List.getElem?_cons_succ, List.getElem?_cons_zero]; rfl) (fun K hK => ?_) AllReadyH.nil)
        · go_simp
          refine hK.out _ _ ⟨xx0, xx1, xx2⟩ (fun hHeldA => ?_)
          clear hK K
          try simp only [Act.put, List.setIfInBounds_toArray, List.set_cons_zero, List.set_cons_succ]
          refine wpAnyH_ready (rs := [7]) (by kernel_rfl) (by simp) ?_
          refine AllReadyH.cons (by simp only [List.getElem?_toArray, List.getElem?_cons_succ, List.getElem?_cons_zero]; rfl) (fun K hK => ?_) AllReadyH.nil
          go_simp
          refine hK.out _ _ (xa _) (fun hHeld7 => ?_)
          clear hK K
          try simp only [Act.put, List.setIfInBounds_toArray, List.set_cons_zero, List.set_cons_succ]
          refine wpAnyH_ready (rs := [8]) (by kernel_rfl) (by simp) ?_
          refine AllReadyH.cons (by simp only [List.getElem?_toArray, List.getElem?_cons_succ, List.getElem?_cons_zero]; rfl) (fun K hK => ?_) AllReadyH.nil
          rw [if_pos (by rfl)]
          refine op_appendM _ _ _ rfl rfl rfl hrun ?_
          simp only [Act.put, List.setIfInBounds_toArray, List.set_cons_zero, List.set_cons_succ]
          refine hK.out _ _ xx9 (fun hHeld9 => ?_)
          clear hK K hHeld9
          try simp only [Act.put, List.setIfInBounds_toArray, List.set_cons_zero, List.set_cons_succ]
          refine tk (v := ?_) 9 ?_ ?_
          rotate_left
          · intro w hSw
            (try dsimp only at hSw)
            first | (go_simp; done) | (go_simp; with_reducible rfl) | with_reducible rfl
          simp only [Act.put, List.setIfInBounds_toArray, List.set_cons_zero, List.set_cons_succ]
          refine tk (v := ?_) 10 ?_ ?_
          rotate_left
          · intro w hSw
            (try dsimp only at hSw)
            first | (go_simp; done) | (go_simp; with_reducible rfl) | with_reducible rfl
          simp only [Act.put, List.setIfInBounds_toArray, List.set_cons_zero, List.set_cons_succ]
          refine tk (v := ?_) 11 ?_ ?_
          rotate_left
          · intro w hSw
            (try dsimp only at hSw)
            first | (go_simp; done) | (go_simp; with_reducible rfl) | with_reducible rfl
          simp only [Act.put, List.setIfInBounds_toArray, List.set_cons_zero, List.set_cons_succ]
          refine wpAnyH_ready (rs := [12]) (by kernel_rfl) (by simp) ?_
          refine AllReadyH.cons (by simp only [List.getElem?_toArray, List.getElem?_cons_succ, List.getElem?_cons_zero]; rfl) (fun K hK => ?_) AllReadyH.nil
          go_simp
          refine hK.out _ _ xx10 (fun hHeld12 => ?_)
          clear hK K
          try simp only [Act.put, List.setIfInBounds_toArray, List.set_cons_zero, List.set_cons_succ]
          refine wpAnyH_done (by kernel_rfl) ?_ _
          go_wp2_with fail
          go_ret
          exact PartR.yes HXN.out HR.out (HM9.out.set _ _ (.inl (.inl rfl)))
        · go_simp
          refine hK.out _ _ (xa _) (fun hHeldA => ?_)
          clear hK K
          try simp only [Act.put, List.setIfInBounds_toArray, List.set_cons_zero, List.set_cons_succ]
          refine wpAnyH_ready (rs := [5]) (by kernel_rfl) (by simp) ?_
          refine AllReadyH.cons (by simp only [List.getElem?_toArray, List.getElem?_cons_succ, List.getElem?_cons_zero]; rfl) (fun K hK => ?_) AllReadyH.nil
          go_simp
          refine hK.out _ _ (xa _) (fun hHeld5 => ?_)
          clear hK K
          try simp only [Act.put, List.setIfInBounds_toArray, List.set_cons_zero, List.set_cons_succ]
          refine wpAnyH_ready (rs := [8]) (by kernel_rfl) (by simp) ?_
          refine AllReadyH.cons (by simp only [List.getElem?_toArray, List.getElem?_cons_succ, List.getElem?_cons_zero]; rfl) (fun K hK => ?_) AllReadyH.nil
          rw [if_pos (by rfl)]
          refine op_appendM _ _ _ rfl rfl rfl hrun ?_
          simp only [Act.put, List.setIfInBounds_toArray, List.set_cons_zero, List.set_cons_succ]
          refine hK.out _ _ xx9 (fun hHeld9 => ?_)
          clear hK K hHeld9
          try simp only [Act.put, List.setIfInBounds_toArray, List.set_cons_zero, List.set_cons_succ]
          refine tk (v := ?_) 9 ?_ ?_
          rotate_left
          · intro w hSw
            (try dsimp only at hSw)
            first | (go_simp; done) | (go_simp; with_reducible rfl) | with_reducible rfl
          simp only [Act.put, List.setIfInBounds_toArray, List.set_cons_zero, List.set_cons_succ]
          refine tk (v := ?_) 10 ?_ ?_
          rotate_left
          · intro w hSw
            (try dsimp only at hSw)
            first | (go_simp; done) | (go_simp; with_reducible rfl) | with_reducible rfl
          simp only [Act.put, List.setIfInBounds_toArray, List.set_cons_zero, List.set_cons_succ]
          refine tk (v := ?_) 11 ?_ ?_
          rotate_left
          · intro w hSw
            (try dsimp only at hSw)
            first | (go_simp; done) | (go_simp; with_reducible rfl) | with_reducible rfl
          simp only [Act.put, List.setIfInBounds_toArray, List.set_cons_zero, List.set_cons_succ]
          refine wpAnyH_ready (rs := [12]) (by kernel_rfl) (by simp) ?_
          refine AllReadyH.cons (by simp only [List.getElem?_toArray, List.getElem?_cons_succ, List.getElem?_cons_zero]; rfl) (fun K hK => ?_) AllReadyH.nil
          go_simp
          refine hK.out _ _ xx10 (fun hHeld12 => ?_)
          clear hK K
          try simp only [Act.put, List.setIfInBounds_toArray, List.set_cons_zero, List.set_cons_succ]
          refine wpAnyH_done (by kernel_rfl) ?_ _
          go_wp2_with fail
          go_ret
          exact PartR.yes HXN.out HR.out (HM9.out.set _ _ (.inl (.inl rfl)))
end Go.Proofs.YtbgmkplpolgebaaGreatDoor
