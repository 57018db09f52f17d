/-
  Several texts in one, in their build order. The walk of LocalPlays. Conditions: the arguments lie as told; the library's variables are laid.
-/
import Derived.Test.YtnflhjagmngimaaGreatDoorM44
import Derived.Test.YtnflhjagmngimaaGreatDoorM45
import Derived.Test.YtnflhjagmngimaaGreatDoorM27
import Derived.Deep.DeepCutAuto
import Derived.Deep.CutBlock
namespace Go.Proofs.YtnflhjagmngimaaGreatDoor.localPlays
set_option linter.unusedSimpArgs false
set_option linter.unusedVariables false
open Go.RowKit Go.Shelf Go.Proofs.YtnflhjagmngimaaGreatDoor

abbrev actRow (x : ActK) : Array Value := #[.int .i64 x.kind, .int .i64 x.later, .string x.name, .string x.text, .int .i64 x.frm.fam, .string x.frm.ip, .int .i64 x.frm.port, .int .i64 x.msg.port, .slice x.na x.msg.names.length x.nc, .string x.msg.cookie, .bool x.priv]
theorem apart_cr {w : World} {B M H R : Nat} {c : CrV} {aa ah : Option Addr} {ca ch : Nat} {r : RcV} (hc : CrAt w B M H c) (hr : RcAt w R aa ah ca ch r) : ∀ k, RcT R aa ah k → ¬ CrT B M H k := by
  obtain ⟨es, cl, hM, -⟩ := hc.names.map
  obtain ⟨es2, cl2, hH, -⟩ := hc.hears.map
  have key : ∀ k cs ty, Blk w k cs ty → ty ≠ 64 → ¬ CrT B M H k := by
    intro k cs ty hk hty q
    rcases q with q | q | q
    · exact blk_neP hk hc.row hty q
    · rw [q] at hk; unfold Blk at hk; rw [hM] at hk; cases hk
    · rw [q] at hk; unfold Blk at hk; rw [hH] at hk; cases hk
  rintro k (rfl | ⟨x, hx, rfl⟩ | ⟨x, hx, rfl⟩)
  · exact key _ _ _ hr.row (by decide)
  · obtain ⟨-, cs, h2⟩ := hr.all.blk hx
    exact key _ _ _ h2 (by decide)
  · obtain ⟨-, cs, h2⟩ := hr.hears.blk hx
    exact key _ _ _ h2 (by decide)
/-- What holds between the deeds. -/
structure PlIn (w : World) (B M R n : Nat) (W : World) : Prop where
  ex : ∃ (c : CrV) (r : RcV) (H : Nat) (aa ah : Option Addr) (ca ch : Nat), CrAt W B M H c ∧ RcAt W R aa ah ca ch r ∧ Both c r ∧ r.heard.length ≤ n ∧ w.heap.size ≤ H
  new : New w W
/-- How all lies within a round. -/
structure Mid (w : World) (B M R X : Nat) (row : Array Value) (H : Nat) (aa ah : Option Addr) (ca ch : Nat) (c : CrV) (r : RcV) (W : World) : Prop where
  cr : CrAt W B M H c
  rc : RcAt W R aa ah ca ch r
  new : New w W
  zs : w.heap.size ≤ B ∧ w.heap.size ≤ M ∧ w.heap.size ≤ R
  zH : w.heap.size ≤ H
  xb : Blk W X row 53
theorem Mid.step {w : World} {B M R X : Nat} {row : Array Value} {H : Nat} {aa ah : Option Addr} {ca ch : Nat} {c : CrV} {r : RcV} {W W' : World} (h : Mid w B M R X row H aa ah ca ch c r W) (n : New W W') : Mid w B M R X row H aa ah ca ch c r W' :=
  ⟨h.cr.new n, h.rc.new n, Mod.trans h.new n, h.zs, h.zH, New.blk n h.xb⟩
theorem Mid.xC {w : World} {B M R X : Nat} {row : Array Value} {H : Nat} {aa ah : Option Addr} {ca ch : Nat} {c : CrV} {r : RcV} {W : World} (h : Mid w B M R X row H aa ah ca ch c r W) : ¬ CrT B M H X := by
  obtain ⟨es, cl, hM, -⟩ := h.cr.names.map
  obtain ⟨es2, cl2, hH, -⟩ := h.cr.hears.map
  have hk := h.xb
  intro q
  rcases q with q | q | q
  · exact blk_neP hk h.cr.row (by decide) q
  · rw [q] at hk; unfold Blk at hk; rw [hM] at hk; cases hk
  · rw [q] at hk; unfold Blk at hk; rw [hH] at hk; cases hk
theorem Mid.xR {w : World} {B M R X : Nat} {row : Array Value} {H : Nat} {aa ah : Option Addr} {ca ch : Nat} {c : CrV} {r : RcV} {W : World} (h : Mid w B M R X row H aa ah ca ch c r W) : ¬ RcT R aa ah X := by
  rintro (q | ⟨x, hx, q⟩ | ⟨x, hx, q⟩)
  · exact blk_neP h.xb h.rc.row (by decide) q
  · obtain ⟨-, cs, h2⟩ := h.rc.all.blk hx
    exact blk_neP h2 h.xb (by decide) q
  · obtain ⟨-, cs, h2⟩ := h.rc.hears.blk hx
    exact blk_neP h2 h.xb (by decide) q
theorem Mid.c {w : World} {B M R X : Nat} {row : Array Value} {H : Nat} {aa ah : Option Addr} {ca ch : Nat} {c c2 : CrV} {r : RcV} {W W' : World} (h : Mid w B M R X row H aa ah ca ch c r W) (d : CDeed W B M H c2 W') :
    ∃ H', Mid w B M R X row H' aa ah ca ch c2 r W' := by
  obtain ⟨H', h1, h2, h3⟩ := d
  obtain ⟨z1, z2, z3⟩ := h.zs
  have zH := h.zH
  refine ⟨H', h1, h.rc.mod h3 (fun k hk => apart_cr h.cr h.rc k hk), h.new.trans' h3 (fun k hk q => by rcases q with q | q | q <;> omega), h.zs, ?_, h3.blk h.xb h.xC⟩
  have := h.new.size
  rcases h2 with q | q <;> omega
theorem Mid.r {w : World} {B M R X : Nat} {row : Array Value} {H : Nat} {aa ah : Option Addr} {ca ch : Nat} {c : CrV} {r r2 : RcV} {W W' : World} (h : Mid w B M R X row H aa ah ca ch c r W) (d : RDeed W R aa ah r2 W') :
    ∃ aa' ah' ca' ch', Mid w B M R X row H aa' ah' ca' ch' c r2 W' := by
  obtain ⟨aa', ah', ca', ch', h1, h2⟩ := d
  obtain ⟨z1, z2, z3⟩ := h.zs
  exact ⟨aa', ah', ca', ch', h.cr.mod h2 (fun q => apart_cr h.cr h.rc _ q (.inl rfl)) (fun q => apart_cr h.cr h.rc _ q (.inr (.inl rfl))) (fun q => apart_cr h.cr h.rc _ q (.inr (.inr rfl))), h1, h.new.trans' h2 (fun k hk q => by have := (h.rc.over k q).1; omega), h.zs, h.zH, h2.blk h.xb h.xR⟩
theorem Mid.pl {w : World} {B M R X n : Nat} {row : Array Value} {H : Nat} {aa ah : Option Addr} {ca ch : Nat} {c : CrV} {r : RcV} {W : World} (h : Mid w B M R X row H aa ah ca ch c r W) (b : Both c r) (hn : r.heard.length ≤ n) : PlIn w B M R n W :=
  ⟨⟨c, r, H, aa, ah, ca, ch, h.cr, h.rc, b, hn, h.zH⟩, h.new⟩
theorem ps_valid {t : ByteArray} (h : psE t = 0) : validM (psM t) = true := by
  unfold psE at h
  unfold psM
  by_cases g : 1400 < t.size
  · rw [if_pos g] at h; cases h
  · rw [if_neg g] at h ⊢
    cases hq : readP (linesC t.data.toList) with
    | ok m => simp only; exact (readP_ok hq).1
    | error k => rw [hq] at h; cases h
set_option maxRecDepth 100000 in
set_option maxHeartbeats 16000000 in
theorem plays_any (seed : ByteArray) (port every : Int) (la : Option Addr) (lc : Nat) (l : List ActK) (w : World) (hs : seed.size ≤ maxLen) (hl : ActsL w la lc l) (hv : ∀ W, New w W → VarsL W) :
    Calls Tryz.prog 5 #[.string seed, .int .i64 port, .int .i64 every, .slice la l.length lc] w fun e w' => e = .returned (.bool true) ∧ New w w' := by
  have hlr := hl.room; have hlc := hl.cap
  unfold maxLen at hlc
  have HLI := hid (lightK_any la lc l w hl)
  have HAW := hid (fun W (n : New w W) => awake23_any W (hv W n).tab)
  have HV := hid hv; have HL := hid hl
  clear hl hv
  by_cases g1 : lightK l = true
  rotate_left
  · rw [show lightK l = false by simpa using g1] at HLI
    clear g1
    go_enter Tryz.func5, Tryz.ntmps5
    go_wp2_with fail
    refine HLI.out.mono ?_
    rintro e w1 ⟨rfl, n1⟩
    have N1 := hid n1
    clear n1
    go_wp2_with fail
    refine (HAW.out _ N1.out).mono ?_
    rintro e w99 ⟨rfl, n9⟩
    have N99 := hid n9
    clear n9
    go_wp2
    go_ret
    exact ⟨rfl, (N1.out).trans N99.out⟩
  obtain ⟨l1, l2⟩ := lightK_facts g1
  have HL2 := hid l2
  rw [g1] at HLI
  clear g1 l2
  unfold maxLen at hs
  by_cases g2 : 200 < seed.size
  · have g3 : (200 : Int) < (seed.size : Int) := by omega
    clear g2
    go_enter Tryz.func5, Tryz.ntmps5
    go_wp2_with fail
    refine HLI.out.mono ?_
    rintro e w1 ⟨rfl, n1⟩
    have N1 := hid n1
    clear n1
    go_wp2_with fail
    refine (HAW.out _ N1.out).mono ?_
    rintro e w99 ⟨rfl, n9⟩
    have N99 := hid n9
    clear n9
    go_wp2
    go_ret
    exact ⟨rfl, (N1.out).trans N99.out⟩
  have g3 : ¬ (200 : Int) < (seed.size : Int) := by omega
  by_cases g4 : newEr seed port every = 0
  rotate_left
  · have HC := hid (fun W => crNew_no seed port every W (by unfold maxLen; omega) g4)
    have HR := hid (fun W => rNew_no seed port every W (by unfold maxLen; omega) g4)
    obtain ⟨E, hE⟩ : ∃ E, E = newEr seed port every := ⟨_, rfl⟩
    rw [← hE] at HC HR g4
    have e1 : (E != 0) = true := by rw [bne_iff_ne]; exact g4
    have e2 : (E == 0) = false := by rw [beq_eq_false_iff_ne]; exact g4
    clear g2 g4 hE
    go_enter Tryz.func5, Tryz.ntmps5
    go_wp2_with fail
    refine HLI.out.mono ?_
    rintro e w1 ⟨rfl, n1⟩
    have N1 := hid n1
    clear n1
    go_wp2_with fail
    refine (HC.out _).mono ?_
    rintro e w2 ⟨rfl, rfl⟩
    go_wp2_with fail
    refine (HR.out _).mono ?_
    rintro e w3 ⟨rfl, rfl⟩
    go_wp2_with fail
    refine (HAW.out _ N1.out).mono ?_
    rintro e w99 ⟨rfl, n9⟩
    have N99 := hid n9
    clear n9
    go_wp2
    go_ret
    exact ⟨rfl, (N1.out).trans N99.out⟩
  have HC := hid (fun W => crNew_ok seed port every W g4)
  have HR := hid (fun W => rNew_ok seed port every W g4)
  have HB0 := hid (Both.start g4)
  clear g2 g4
  go_enter Tryz.func5, Tryz.ntmps5
  go_wp2_with fail
  refine HLI.out.mono ?_
  rintro e w1 ⟨rfl, n1⟩
  have N1 := hid n1
  clear n1
  go_wp2_with fail
  refine (HC.out _).mono ?_
  rintro e w2 ⟨B, M, H0, rfl, hc2, n2, zB, zM, zH⟩
  have N2 := hid (N1.out.trans n2)
  have C2 := hid hc2
  have hz1 := N1.out.size
  have HZ := hid (show w.heap.size ≤ B ∧ w.heap.size ≤ M ∧ w.heap.size ≤ H0 by omega)
  clear n2 hc2 zB zM zH
  go_wp2_with fail
  refine (HR.out _).mono ?_
  rintro e w3 ⟨R, rfl, hr3, n3, zR⟩
  have N3 := hid (N2.out.trans n3)
  have HZR := hid (show w.heap.size ≤ R by have := N2.out.size; omega)
  have P0 : Hid (PlIn w B M R 0 w3) := hid ⟨⟨_, _, H0, none, none, 0, 0, C2.out.new n3, hr3, HB0.out, Nat.zero_le _, HZ.out.2.2⟩, N3.out⟩
  clear n3 hr3 zR hz1
  go_wp2_with fail
  go_loopw [13, 85] (fun x y wr => ∃ (NOW : Int) (k : Nat), x = .int .i64 NOW ∧ y = .int .i64 k ∧ (0 ≤ NOW ∧ NOW ≤ 1000000000) ∧ k ≤ l.length ∧ PlIn w B M R k wr) (fun _ y _ => l.length - (intOf y).toNat)
  case atStart => exact ⟨0, 0, rfl, rfl, by omega, by omega, P0.out⟩
  case round =>
    obtain ⟨NOW, k, rfl, rfl, hnow, hk, hp⟩ := hrel
    have HP := hid hp
    have hn := hp.new
    by_cases hlt : k < l.length
    rotate_left
    · clear hp hn
      go_wp2_with fail
      refine (HAW.out _ HP.out.new).mono ?_
      rintro e w99 ⟨rfl, n9⟩
      have N99 := hid n9
      clear n9
      go_wp2
      go_ret
      exact ⟨rfl, (HP.out.new).trans N99.out⟩
    obtain ⟨b2, o2, rfl, hb2, hc2⟩ := HL.out.get (by omega)
    obtain ⟨hcc, hok⟩ := hc2 k hlt
    have hlx := HL2.out l[k] (List.getElem_mem hlt)
    obtain ⟨x, hx⟩ : ∃ x, x = l[k] := ⟨_, rfl⟩
    rw [← hx] at hcc hlx hok
    have HOK := hid (hok.new hn)
    obtain ⟨kind, later, name, text, ⟨fam, ip, aport⟩, ⟨cport, names, cook⟩, na, nc, priv⟩ := x
    have g0 := hn.cellv (hcc 0 _ rfl); have g1 := hn.cellv (hcc 1 _ rfl); have g2 := hn.cellv (hcc 2 _ rfl); have g3 := hn.cellv (hcc 3 _ rfl); have g4 := hn.cellv (hcc 4 _ rfl); have g5 := hn.cellv (hcc 5 _ rfl)
    have g6 := hn.cellv (hcc 6 _ rfl); have g7 := hn.cellv (hcc 7 _ rfl); have g8 := hn.cellv (hcc 8 _ rfl); have g9 := hn.cellv (hcc 9 _ rfl); have g10 := hn.cellv (hcc 10 _ rfl)
    simp only [Nat.add_zero] at g0 g1 g2 g3 g4 g5 g6 g7 g8 g9 g10 hlx
    obtain ⟨y1, y2, y3, y4⟩ := hlx
    have hw : IntKind.i64.wrap (NOW + later) = NOW + later := by rw [IntKind.wrap_i64]; omega
    clear hc2 hcc hx hok hp hn
    go_upto_block 2 with fail
    refine name_worldC (p := fun W => Code.wp _ _ _ _ W) (fun W5 hW5 => ?_)
    have n5 : New wr W5 := by rw [hW5]; exact (Mod.refl _ _).alloc _
    obtain ⟨X, hX⟩ : ∃ X, X = wr.heap.size := ⟨_, rfl⟩
    have X5 : Hid (Blk W5 X (actRow ⟨kind, later, name, text, ⟨fam, ip, aport⟩, ⟨cport, names, cook⟩, na, nc, priv⟩) 53) := hid (by rw [hW5, hX]; exact Blk.new wr _ _)
    have P5 : Hid (PlIn w B M R k W5) := hid (by
      obtain ⟨⟨c, r, H, aa, ah, ca, ch, h1, h2, h3, h4, h5⟩, h6⟩ := HP.out
      exact ⟨⟨c, r, H, aa, ah, ca, ch, h1.new n5, h2.new n5, h3, h4, h5⟩, Mod.trans h6 n5⟩)
    have HOK5 := hid (HOK.out.new n5)
    rw [← hX]
    have hwX : Hid (w.heap.size ≤ X) := hid (by rw [hX]; exact HP.out.new.size)
    clear hW5 n5 hX g0 g1 g2 g3 g4 g5 g6 g7 g8 g9 g10
    go_cut [17] (fun s17 wx => s17 = .bool true ∧ PlIn w B M R (k + 1) wx ∧ Blk wx X (actRow ⟨kind, later, name, text, ⟨fam, ip, aport⟩, ⟨cport, names, cook⟩, na, nc, priv⟩) 53)
    case first =>
      obtain ⟨⟨c, r, H, aa, ah, ca, ch, hcr, hrc, hbo, hln, hHz⟩, hn⟩ := P5.out
      have M5 : Hid (Mid w B M R X (actRow ⟨kind, later, name, text, ⟨fam, ip, aport⟩, ⟨cport, names, cook⟩, na, nc, priv⟩) H aa ah ca ch c r W5) := hid ⟨hcr, hrc, hn, ⟨HZ.out.1, HZ.out.2.1, HZR.out⟩, hHz, X5.out⟩
      have B5 := hid hbo
      clear hcr hrc hbo hn
      by_cases hk1 : kind = 1
      · as_aux_lemma =>
          subst hk1
          go_wp2_with fail
          obtain ⟨E, c2, r2, hb2, hh2, CC, RR⟩ := both_add B5.out name priv (by unfold maxLen; omega)
          have HCC := hid CC; have HRR := hid RR; have HB2 := hid hb2; have HH2 := hid hh2
          clear CC RR hb2 hh2
          have x2 := M5.out.xb.cellv 2 rfl; have x10 := M5.out.xb.cellv 10 rfl; have xl := M5.out.xb.lt
          have MD := hid (M5.out.step ((Mod.refl _ _).drew))
          refine wp_region_held_drew (S := (fun w' => w'.cell? ⟨X, 2, none⟩ = some (.string name) ∧ w'.cell? ⟨X, 10, none⟩ = some (.bool priv))) (by kernel_rfl) ⟨x2, x10⟩ (fun hHeld => ?_)
          refine tk (v := ?_) 0 ?_ ?_
          rotate_left
          · intro w hSw
            (try dsimp only at hSw)
            first | (go_simp; done) | (go_simp; with_reducible rfl) | with_reducible rfl
          simp only [Act.put, List.setIfInBounds_toArray, List.set_cons_zero, List.set_cons_succ]
          refine tk (v := ?_) 1 ?_ ?_
          rotate_left
          · intro w hSw
            (try dsimp only at hSw)
            first | (go_simp; done) | (go_simp; with_reducible rfl) | with_reducible rfl
          simp only [Act.put, List.setIfInBounds_toArray, List.set_cons_zero, List.set_cons_succ]
          refine tk (v := ?_) 2 ?_ ?_
          rotate_left
          · intro w hSw
            (try dsimp only at hSw)
            first | (go_simp; done) | (go_simp; with_reducible rfl) | with_reducible rfl
          simp only [Act.put, List.setIfInBounds_toArray, List.set_cons_zero, List.set_cons_succ]
          refine tk (v := ?_) 3 ?_ ?_
          rotate_left
          · intro w hSw
            (try dsimp only at hSw)
            first | (go_simp; done) | (go_simp; with_reducible rfl) | with_reducible rfl
          simp only [Act.put, List.setIfInBounds_toArray, List.set_cons_zero, List.set_cons_succ]
          refine tk (v := ?_) 4 ?_ ?_
          rotate_left
          · intro w hSw
            (try dsimp only at hSw)
            first | (go_simp; done) | (go_simp; with_reducible rfl) | with_reducible rfl
          simp only [Act.put, List.setIfInBounds_toArray, List.set_cons_zero, List.set_cons_succ]
          refine tk (v := ?_) 6 ?_ ?_
          rotate_left
          · intro w hSw
            (try dsimp only at hSw)
            first | (go_simp; done) | (go_simp; with_reducible rfl) | with_reducible rfl
          simp only [Act.put, List.setIfInBounds_toArray, List.set_cons_zero, List.set_cons_succ]
          refine tk (v := ?_) 7 ?_ ?_
          rotate_left
          · intro w hSw
            (try dsimp only at hSw)
            first | (go_simp; done) | (go_simp; with_reducible rfl) | with_reducible rfl
          simp only [Act.put, List.setIfInBounds_toArray, List.set_cons_zero, List.set_cons_succ]
          refine tk (v := ?_) 8 ?_ ?_
          rotate_left
          · intro w hSw
            (try dsimp only at hSw)
            first | (go_simp; done) | (go_simp; with_reducible rfl) | with_reducible rfl
          simp only [Act.put, List.setIfInBounds_toArray, List.set_cons_zero, List.set_cons_succ]
          refine tk (v := ?_) 9 ?_ ?_
          rotate_left
          · intro w hSw
            (try dsimp only at hSw)
            first | (go_simp; done) | (go_simp; with_reducible rfl) | with_reducible rfl
          simp only [Act.put, List.setIfInBounds_toArray, List.set_cons_zero, List.set_cons_succ]
          refine tk (v := ?_) 10 ?_ ?_
          rotate_left
          · intro w hSw
            (try dsimp only at hSw)
            first | (go_simp; done) | (go_simp; with_reducible rfl) | with_reducible rfl
          simp only [Act.put, List.setIfInBounds_toArray, List.set_cons_zero, List.set_cons_succ]
          refine wpAnyH_ready (rs := [5]) (by kernel_rfl) (by simp) ?_
          refine AllReadyH.cons rfl (fun K hK => ?_) AllReadyH.nil
          go_simp
          (go_at_call 8; refine (HCC.out B M H _ MD.out.cr).mono ?_; rintro e w6 ⟨rfl, d6⟩; obtain ⟨H6, m6⟩ := MD.out.c d6; have M6 := hid m6; clear d6 m6)
          try dsimp only
          refine hK.out _ _ ⟨M6.out.xb.cellv 2 rfl, M6.out.xb.cellv 10 rfl⟩ (fun hHeld5 => ?_)
          clear hK K
          try simp only [Act.put, List.setIfInBounds_toArray, List.set_cons_zero, List.set_cons_succ]
          refine wpAnyH_ready (rs := [11]) (by kernel_rfl) (by simp) ?_
          refine AllReadyH.cons rfl (fun K hK => ?_) AllReadyH.nil
          go_simp
          (go_at_call 19; refine (HRR.out R aa ah ca ch _ M6.out.rc).mono ?_; rintro e w7 ⟨rfl, d7⟩; obtain ⟨aa7, ah7, ca7, ch7, m7⟩ := M6.out.r d7; have M7 := hid m7; clear d7 m7)
          try dsimp only
          refine hK.out _ _ ⟨M7.out.xb.cellv 2 rfl, M7.out.xb.cellv 10 rfl⟩ (fun hHeld11 => ?_)
          clear hK K
          try simp only [Act.put, List.setIfInBounds_toArray, List.set_cons_zero, List.set_cons_succ]
          refine tk (v := ?_) 12 ?_ ?_
          rotate_left
          · intro w hSw
            (try dsimp only at hSw)
            first | (go_simp; done) | (go_simp; with_reducible rfl) | with_reducible rfl
          simp only [Act.put, List.setIfInBounds_toArray, List.set_cons_zero, List.set_cons_succ]
          refine tk (v := ?_) 13 ?_ ?_
          rotate_left
          · intro w hSw
            (try dsimp only at hSw)
            first | (go_simp; done) | (go_simp; with_reducible rfl) | with_reducible rfl
          simp only [Act.put, List.setIfInBounds_toArray, List.set_cons_zero, List.set_cons_succ]
          refine wpAnyH_done (by kernel_rfl) ?_ _
          go_wp2_with fail
          go_meet
          exact ⟨by simp, M7.out.pl HB2.out (by rw [HH2.out]; omega), M7.out.xb⟩
      by_cases hk2 : kind = 2
      · as_aux_lemma =>
          subst hk2
          clear hk1
          go_wp2_with fail
          obtain ⟨E, c2, r2, hb2, hh2, CC, RR⟩ := both_add B5.out name priv (by unfold maxLen; omega)
          have HCC := hid CC; have HRR := hid RR; have HB2 := hid hb2; have HH2 := hid hh2
          clear CC RR hb2 hh2
          have x2 := M5.out.xb.cellv 2 rfl; have x10 := M5.out.xb.cellv 10 rfl; have xl := M5.out.xb.lt
          have MD := hid (M5.out.step ((Mod.refl _ _).drew))
          refine wp_region_held_drew (S := (fun w' => w'.cell? ⟨X, 2, none⟩ = some (.string name) ∧ w'.cell? ⟨X, 10, none⟩ = some (.bool priv))) (by kernel_rfl) ⟨x2, x10⟩ (fun hHeld => ?_)
          refine tk (v := ?_) 0 ?_ ?_
          rotate_left
          · intro w hSw
            (try dsimp only at hSw)
            first | (go_simp; done) | (go_simp; with_reducible rfl) | with_reducible rfl
          simp only [Act.put, List.setIfInBounds_toArray, List.set_cons_zero, List.set_cons_succ]
          refine tk (v := ?_) 1 ?_ ?_
          rotate_left
          · intro w hSw
            (try dsimp only at hSw)
            first | (go_simp; done) | (go_simp; with_reducible rfl) | with_reducible rfl
          simp only [Act.put, List.setIfInBounds_toArray, List.set_cons_zero, List.set_cons_succ]
          refine tk (v := ?_) 2 ?_ ?_
          rotate_left
          · intro w hSw
            (try dsimp only at hSw)
            first | (go_simp; done) | (go_simp; with_reducible rfl) | with_reducible rfl
          simp only [Act.put, List.setIfInBounds_toArray, List.set_cons_zero, List.set_cons_succ]
          refine tk (v := ?_) 3 ?_ ?_
          rotate_left
          · intro w hSw
            (try dsimp only at hSw)
            first | (go_simp; done) | (go_simp; with_reducible rfl) | with_reducible rfl
          simp only [Act.put, List.setIfInBounds_toArray, List.set_cons_zero, List.set_cons_succ]
          refine tk (v := ?_) 4 ?_ ?_
          rotate_left
          · intro w hSw
            (try dsimp only at hSw)
            first | (go_simp; done) | (go_simp; with_reducible rfl) | with_reducible rfl
          simp only [Act.put, List.setIfInBounds_toArray, List.set_cons_zero, List.set_cons_succ]
          refine tk (v := ?_) 6 ?_ ?_
          rotate_left
          · intro w hSw
            (try dsimp only at hSw)
            first | (go_simp; done) | (go_simp; with_reducible rfl) | with_reducible rfl
          simp only [Act.put, List.setIfInBounds_toArray, List.set_cons_zero, List.set_cons_succ]
          refine tk (v := ?_) 7 ?_ ?_
          rotate_left
          · intro w hSw
            (try dsimp only at hSw)
            first | (go_simp; done) | (go_simp; with_reducible rfl) | with_reducible rfl
          simp only [Act.put, List.setIfInBounds_toArray, List.set_cons_zero, List.set_cons_succ]
          refine tk (v := ?_) 8 ?_ ?_
          rotate_left
          · intro w hSw
            (try dsimp only at hSw)
            first | (go_simp; done) | (go_simp; with_reducible rfl) | with_reducible rfl
          simp only [Act.put, List.setIfInBounds_toArray, List.set_cons_zero, List.set_cons_succ]
          refine tk (v := ?_) 9 ?_ ?_
          rotate_left
          · intro w hSw
            (try dsimp only at hSw)
            first | (go_simp; done) | (go_simp; with_reducible rfl) | with_reducible rfl
          simp only [Act.put, List.setIfInBounds_toArray, List.set_cons_zero, List.set_cons_succ]
          refine tk (v := ?_) 10 ?_ ?_
          rotate_left
          · intro w hSw
            (try dsimp only at hSw)
            first | (go_simp; done) | (go_simp; with_reducible rfl) | with_reducible rfl
          simp only [Act.put, List.setIfInBounds_toArray, List.set_cons_zero, List.set_cons_succ]
          refine wpAnyH_ready (rs := [5]) (by kernel_rfl) (by simp) ?_
          refine AllReadyH.cons rfl (fun K hK => ?_) AllReadyH.nil
          go_simp
          (go_at_call 8; refine (HCC.out B M H _ MD.out.cr).mono ?_; rintro e w6 ⟨rfl, d6⟩; obtain ⟨H6, m6⟩ := MD.out.c d6; have M6 := hid m6; clear d6 m6)
          try dsimp only
          refine hK.out _ _ ⟨M6.out.xb.cellv 2 rfl, M6.out.xb.cellv 10 rfl⟩ (fun hHeld5 => ?_)
          clear hK K
          try simp only [Act.put, List.setIfInBounds_toArray, List.set_cons_zero, List.set_cons_succ]
          refine wpAnyH_ready (rs := [11]) (by kernel_rfl) (by simp) ?_
          refine AllReadyH.cons rfl (fun K hK => ?_) AllReadyH.nil
          go_simp
          (go_at_call 19; refine (HRR.out R aa ah ca ch _ M6.out.rc).mono ?_; rintro e w7 ⟨rfl, d7⟩; obtain ⟨aa7, ah7, ca7, ch7, m7⟩ := M6.out.r d7; have M7 := hid m7; clear d7 m7)
          try dsimp only
          refine hK.out _ _ ⟨M7.out.xb.cellv 2 rfl, M7.out.xb.cellv 10 rfl⟩ (fun hHeld11 => ?_)
          clear hK K
          try simp only [Act.put, List.setIfInBounds_toArray, List.set_cons_zero, List.set_cons_succ]
          refine tk (v := ?_) 12 ?_ ?_
          rotate_left
          · intro w hSw
            (try dsimp only at hSw)
            first | (go_simp; done) | (go_simp; with_reducible rfl) | with_reducible rfl
          simp only [Act.put, List.setIfInBounds_toArray, List.set_cons_zero, List.set_cons_succ]
          refine tk (v := ?_) 13 ?_ ?_
          rotate_left
          · intro w hSw
            (try dsimp only at hSw)
            first | (go_simp; done) | (go_simp; with_reducible rfl) | with_reducible rfl
          simp only [Act.put, List.setIfInBounds_toArray, List.set_cons_zero, List.set_cons_succ]
          refine wpAnyH_done (by kernel_rfl) ?_ _
          go_wp2_with fail
          go_meet
          exact ⟨by simp, M7.out.pl HB2.out (by rw [HH2.out]; omega), M7.out.xb⟩
      by_cases hk3 : kind = 3
      · as_aux_lemma =>
          subst hk3
          clear hk1 hk2
          go_wp2_with fail
          obtain ⟨E, c2, r2, hb2, hh2, CC, RR⟩ := both_add B5.out name priv (by unfold maxLen; omega)
          have HCC := hid CC; have HRR := hid RR; have HB2 := hid hb2; have HH2 := hid hh2
          clear CC RR hb2 hh2
          have x2 := M5.out.xb.cellv 2 rfl; have x10 := M5.out.xb.cellv 10 rfl; have xl := M5.out.xb.lt
          have MD := hid (M5.out.step ((Mod.refl _ _).drew))
          refine wp_region_held_drew (S := (fun w' => w'.cell? ⟨X, 2, none⟩ = some (.string name) ∧ w'.cell? ⟨X, 10, none⟩ = some (.bool priv))) (by kernel_rfl) ⟨x2, x10⟩ (fun hHeld => ?_)
          refine tk (v := ?_) 0 ?_ ?_
          rotate_left
          · intro w hSw
            (try dsimp only at hSw)
            first | (go_simp; done) | (go_simp; with_reducible rfl) | with_reducible rfl
          simp only [Act.put, List.setIfInBounds_toArray, List.set_cons_zero, List.set_cons_succ]
          refine tk (v := ?_) 1 ?_ ?_
          rotate_left
          · intro w hSw
            (try dsimp only at hSw)
            first | (go_simp; done) | (go_simp; with_reducible rfl) | with_reducible rfl
          simp only [Act.put, List.setIfInBounds_toArray, List.set_cons_zero, List.set_cons_succ]
          refine tk (v := ?_) 2 ?_ ?_
          rotate_left
          · intro w hSw
            (try dsimp only at hSw)
            first | (go_simp; done) | (go_simp; with_reducible rfl) | with_reducible rfl
          simp only [Act.put, List.setIfInBounds_toArray, List.set_cons_zero, List.set_cons_succ]
          refine tk (v := ?_) 3 ?_ ?_
          rotate_left
          · intro w hSw
            (try dsimp only at hSw)
            first | (go_simp; done) | (go_simp; with_reducible rfl) | with_reducible rfl
          simp only [Act.put, List.setIfInBounds_toArray, List.set_cons_zero, List.set_cons_succ]
          refine tk (v := ?_) 4 ?_ ?_
          rotate_left
          · intro w hSw
            (try dsimp only at hSw)
            first | (go_simp; done) | (go_simp; with_reducible rfl) | with_reducible rfl
          simp only [Act.put, List.setIfInBounds_toArray, List.set_cons_zero, List.set_cons_succ]
          refine tk (v := ?_) 6 ?_ ?_
          rotate_left
          · intro w hSw
            (try dsimp only at hSw)
            first | (go_simp; done) | (go_simp; with_reducible rfl) | with_reducible rfl
          simp only [Act.put, List.setIfInBounds_toArray, List.set_cons_zero, List.set_cons_succ]
          refine tk (v := ?_) 7 ?_ ?_
          rotate_left
          · intro w hSw
            (try dsimp only at hSw)
            first | (go_simp; done) | (go_simp; with_reducible rfl) | with_reducible rfl
          simp only [Act.put, List.setIfInBounds_toArray, List.set_cons_zero, List.set_cons_succ]
          refine tk (v := ?_) 8 ?_ ?_
          rotate_left
          · intro w hSw
            (try dsimp only at hSw)
            first | (go_simp; done) | (go_simp; with_reducible rfl) | with_reducible rfl
          simp only [Act.put, List.setIfInBounds_toArray, List.set_cons_zero, List.set_cons_succ]
          refine tk (v := ?_) 9 ?_ ?_
          rotate_left
          · intro w hSw
            (try dsimp only at hSw)
            first | (go_simp; done) | (go_simp; with_reducible rfl) | with_reducible rfl
          simp only [Act.put, List.setIfInBounds_toArray, List.set_cons_zero, List.set_cons_succ]
          refine tk (v := ?_) 10 ?_ ?_
          rotate_left
          · intro w hSw
            (try dsimp only at hSw)
            first | (go_simp; done) | (go_simp; with_reducible rfl) | with_reducible rfl
          simp only [Act.put, List.setIfInBounds_toArray, List.set_cons_zero, List.set_cons_succ]
          refine wpAnyH_ready (rs := [5]) (by kernel_rfl) (by simp) ?_
          refine AllReadyH.cons rfl (fun K hK => ?_) AllReadyH.nil
          go_simp
          (go_at_call 8; refine (HCC.out B M H _ MD.out.cr).mono ?_; rintro e w6 ⟨rfl, d6⟩; obtain ⟨H6, m6⟩ := MD.out.c d6; have M6 := hid m6; clear d6 m6)
          try dsimp only
          refine hK.out _ _ ⟨M6.out.xb.cellv 2 rfl, M6.out.xb.cellv 10 rfl⟩ (fun hHeld5 => ?_)
          clear hK K
          try simp only [Act.put, List.setIfInBounds_toArray, List.set_cons_zero, List.set_cons_succ]
          refine wpAnyH_ready (rs := [11]) (by kernel_rfl) (by simp) ?_
          refine AllReadyH.cons rfl (fun K hK => ?_) AllReadyH.nil
          go_simp
          (go_at_call 19; refine (HRR.out R aa ah ca ch _ M6.out.rc).mono ?_; rintro e w7 ⟨rfl, d7⟩; obtain ⟨aa7, ah7, ca7, ch7, m7⟩ := M6.out.r d7; have M7 := hid m7; clear d7 m7)
          try dsimp only
          refine hK.out _ _ ⟨M7.out.xb.cellv 2 rfl, M7.out.xb.cellv 10 rfl⟩ (fun hHeld11 => ?_)
          clear hK K
          try simp only [Act.put, List.setIfInBounds_toArray, List.set_cons_zero, List.set_cons_succ]
          refine tk (v := ?_) 12 ?_ ?_
          rotate_left
          · intro w hSw
            (try dsimp only at hSw)
            first | (go_simp; done) | (go_simp; with_reducible rfl) | with_reducible rfl
          simp only [Act.put, List.setIfInBounds_toArray, List.set_cons_zero, List.set_cons_succ]
          refine tk (v := ?_) 13 ?_ ?_
          rotate_left
          · intro w hSw
            (try dsimp only at hSw)
            first | (go_simp; done) | (go_simp; with_reducible rfl) | with_reducible rfl
          simp only [Act.put, List.setIfInBounds_toArray, List.set_cons_zero, List.set_cons_succ]
          refine wpAnyH_done (by kernel_rfl) ?_ _
          go_wp2_with fail
          go_meet
          exact ⟨by simp, M7.out.pl HB2.out (by rw [HH2.out]; omega), M7.out.xb⟩
      by_cases hk4 : kind = 4
      · as_aux_lemma =>
          subst hk4
          clear hk1 hk2 hk3
          go_wp2_with fail
          obtain ⟨E, c2, r2, hb2, hh2, CC, RR⟩ := both_add B5.out name priv (by unfold maxLen; omega)
          have HCC := hid CC; have HRR := hid RR; have HB2 := hid hb2; have HH2 := hid hh2
          clear CC RR hb2 hh2
          have x2 := M5.out.xb.cellv 2 rfl; have x10 := M5.out.xb.cellv 10 rfl; have xl := M5.out.xb.lt
          have MD := hid (M5.out.step ((Mod.refl _ _).drew))
          refine wp_region_held_drew (S := (fun w' => w'.cell? ⟨X, 2, none⟩ = some (.string name) ∧ w'.cell? ⟨X, 10, none⟩ = some (.bool priv))) (by kernel_rfl) ⟨x2, x10⟩ (fun hHeld => ?_)
          refine tk (v := ?_) 0 ?_ ?_
          rotate_left
          · intro w hSw
            (try dsimp only at hSw)
            first | (go_simp; done) | (go_simp; with_reducible rfl) | with_reducible rfl
          simp only [Act.put, List.setIfInBounds_toArray, List.set_cons_zero, List.set_cons_succ]
          refine tk (v := ?_) 1 ?_ ?_
          rotate_left
          · intro w hSw
            (try dsimp only at hSw)
            first | (go_simp; done) | (go_simp; with_reducible rfl) | with_reducible rfl
          simp only [Act.put, List.setIfInBounds_toArray, List.set_cons_zero, List.set_cons_succ]
          refine tk (v := ?_) 2 ?_ ?_
          rotate_left
          · intro w hSw
            (try dsimp only at hSw)
            first | (go_simp; done) | (go_simp; with_reducible rfl) | with_reducible rfl
          simp only [Act.put, List.setIfInBounds_toArray, List.set_cons_zero, List.set_cons_succ]
          refine tk (v := ?_) 3 ?_ ?_
          rotate_left
          · intro w hSw
            (try dsimp only at hSw)
            first | (go_simp; done) | (go_simp; with_reducible rfl) | with_reducible rfl
          simp only [Act.put, List.setIfInBounds_toArray, List.set_cons_zero, List.set_cons_succ]
          refine tk (v := ?_) 4 ?_ ?_
          rotate_left
          · intro w hSw
            (try dsimp only at hSw)
            first | (go_simp; done) | (go_simp; with_reducible rfl) | with_reducible rfl
          simp only [Act.put, List.setIfInBounds_toArray, List.set_cons_zero, List.set_cons_succ]
          refine tk (v := ?_) 6 ?_ ?_
          rotate_left
          · intro w hSw
            (try dsimp only at hSw)
            first | (go_simp; done) | (go_simp; with_reducible rfl) | with_reducible rfl
          simp only [Act.put, List.setIfInBounds_toArray, List.set_cons_zero, List.set_cons_succ]
          refine tk (v := ?_) 7 ?_ ?_
          rotate_left
          · intro w hSw
            (try dsimp only at hSw)
            first | (go_simp; done) | (go_simp; with_reducible rfl) | with_reducible rfl
          simp only [Act.put, List.setIfInBounds_toArray, List.set_cons_zero, List.set_cons_succ]
          refine tk (v := ?_) 8 ?_ ?_
          rotate_left
          · intro w hSw
            (try dsimp only at hSw)
            first | (go_simp; done) | (go_simp; with_reducible rfl) | with_reducible rfl
          simp only [Act.put, List.setIfInBounds_toArray, List.set_cons_zero, List.set_cons_succ]
          refine tk (v := ?_) 9 ?_ ?_
          rotate_left
          · intro w hSw
            (try dsimp only at hSw)
            first | (go_simp; done) | (go_simp; with_reducible rfl) | with_reducible rfl
          simp only [Act.put, List.setIfInBounds_toArray, List.set_cons_zero, List.set_cons_succ]
          refine tk (v := ?_) 10 ?_ ?_
          rotate_left
          · intro w hSw
            (try dsimp only at hSw)
            first | (go_simp; done) | (go_simp; with_reducible rfl) | with_reducible rfl
          simp only [Act.put, List.setIfInBounds_toArray, List.set_cons_zero, List.set_cons_succ]
          refine wpAnyH_ready (rs := [5]) (by kernel_rfl) (by simp) ?_
          refine AllReadyH.cons rfl (fun K hK => ?_) AllReadyH.nil
          go_simp
          (go_at_call 8; refine (HCC.out B M H _ MD.out.cr).mono ?_; rintro e w6 ⟨rfl, d6⟩; obtain ⟨H6, m6⟩ := MD.out.c d6; have M6 := hid m6; clear d6 m6)
          try dsimp only
          refine hK.out _ _ ⟨M6.out.xb.cellv 2 rfl, M6.out.xb.cellv 10 rfl⟩ (fun hHeld5 => ?_)
          clear hK K
          try simp only [Act.put, List.setIfInBounds_toArray, List.set_cons_zero, List.set_cons_succ]
          refine wpAnyH_ready (rs := [11]) (by kernel_rfl) (by simp) ?_
          refine AllReadyH.cons rfl (fun K hK => ?_) AllReadyH.nil
          go_simp
          (go_at_call 19; refine (HRR.out R aa ah ca ch _ M6.out.rc).mono ?_; rintro e w7 ⟨rfl, d7⟩; obtain ⟨aa7, ah7, ca7, ch7, m7⟩ := M6.out.r d7; have M7 := hid m7; clear d7 m7)
          try dsimp only
          refine hK.out _ _ ⟨M7.out.xb.cellv 2 rfl, M7.out.xb.cellv 10 rfl⟩ (fun hHeld11 => ?_)
          clear hK K
          try simp only [Act.put, List.setIfInBounds_toArray, List.set_cons_zero, List.set_cons_succ]
          refine tk (v := ?_) 12 ?_ ?_
          rotate_left
          · intro w hSw
            (try dsimp only at hSw)
            first | (go_simp; done) | (go_simp; with_reducible rfl) | with_reducible rfl
          simp only [Act.put, List.setIfInBounds_toArray, List.set_cons_zero, List.set_cons_succ]
          refine tk (v := ?_) 13 ?_ ?_
          rotate_left
          · intro w hSw
            (try dsimp only at hSw)
            first | (go_simp; done) | (go_simp; with_reducible rfl) | with_reducible rfl
          simp only [Act.put, List.setIfInBounds_toArray, List.set_cons_zero, List.set_cons_succ]
          refine wpAnyH_done (by kernel_rfl) ?_ _
          go_wp2_with fail
          go_meet
          exact ⟨by simp, M7.out.pl HB2.out (by rw [HH2.out]; omega), M7.out.xb⟩
      by_cases hk5 : kind = 5
      · as_aux_lemma =>
          subst hk5
          clear hk1 hk2 hk3 hk4
          go_wp2_with fail
          obtain ⟨E, c2, r2, hb2, hh2, CC, RR⟩ := both_drop B5.out name (by unfold maxLen; omega)
          have HCC := hid CC; have HRR := hid RR; have HB2 := hid hb2; have HH2 := hid hh2
          clear CC RR hb2 hh2
          have x2 := M5.out.xb.cellv 2 rfl; have xl := M5.out.xb.lt
          have MD := hid (M5.out.step ((Mod.refl _ _).drew))
          refine wp_region_held_drew (S := (fun w' => w'.cell? ⟨X, 2, none⟩ = some (.string name))) (by kernel_rfl) x2 (fun hHeld => ?_)
          refine tk (v := ?_) 0 ?_ ?_
          rotate_left
          · intro w hSw
            (try dsimp only at hSw)
            first | (go_simp; done) | (go_simp; with_reducible rfl) | with_reducible rfl
          simp only [Act.put, List.setIfInBounds_toArray, List.set_cons_zero, List.set_cons_succ]
          refine tk (v := ?_) 1 ?_ ?_
          rotate_left
          · intro w hSw
            (try dsimp only at hSw)
            first | (go_simp; done) | (go_simp; with_reducible rfl) | with_reducible rfl
          simp only [Act.put, List.setIfInBounds_toArray, List.set_cons_zero, List.set_cons_succ]
          refine tk (v := ?_) 2 ?_ ?_
          rotate_left
          · intro w hSw
            (try dsimp only at hSw)
            first | (go_simp; done) | (go_simp; with_reducible rfl) | with_reducible rfl
          simp only [Act.put, List.setIfInBounds_toArray, List.set_cons_zero, List.set_cons_succ]
          refine tk (v := ?_) 4 ?_ ?_
          rotate_left
          · intro w hSw
            (try dsimp only at hSw)
            first | (go_simp; done) | (go_simp; with_reducible rfl) | with_reducible rfl
          simp only [Act.put, List.setIfInBounds_toArray, List.set_cons_zero, List.set_cons_succ]
          refine tk (v := ?_) 5 ?_ ?_
          rotate_left
          · intro w hSw
            (try dsimp only at hSw)
            first | (go_simp; done) | (go_simp; with_reducible rfl) | with_reducible rfl
          simp only [Act.put, List.setIfInBounds_toArray, List.set_cons_zero, List.set_cons_succ]
          refine tk (v := ?_) 6 ?_ ?_
          rotate_left
          · intro w hSw
            (try dsimp only at hSw)
            first | (go_simp; done) | (go_simp; with_reducible rfl) | with_reducible rfl
          simp only [Act.put, List.setIfInBounds_toArray, List.set_cons_zero, List.set_cons_succ]
          refine wpAnyH_ready (rs := [3]) (by kernel_rfl) (by simp) ?_
          refine AllReadyH.cons rfl (fun K hK => ?_) AllReadyH.nil
          go_simp
          (go_at_call 20; refine (HCC.out B M H _ MD.out.cr).mono ?_; rintro e w6 ⟨rfl, d6⟩; obtain ⟨H6, m6⟩ := MD.out.c d6; have M6 := hid m6; clear d6 m6)
          try dsimp only
          refine hK.out _ _ (M6.out.xb.cellv 2 rfl) (fun hHeld3 => ?_)
          clear hK K
          try simp only [Act.put, List.setIfInBounds_toArray, List.set_cons_zero, List.set_cons_succ]
          refine wpAnyH_ready (rs := [7]) (by kernel_rfl) (by simp) ?_
          refine AllReadyH.cons rfl (fun K hK => ?_) AllReadyH.nil
          go_simp
          (go_at_call 21; refine (HRR.out R aa ah ca ch _ M6.out.rc).mono ?_; rintro e w7 ⟨rfl, d7⟩; obtain ⟨aa7, ah7, ca7, ch7, m7⟩ := M6.out.r d7; have M7 := hid m7; clear d7 m7)
          try dsimp only
          refine hK.out _ _ (M7.out.xb.cellv 2 rfl) (fun hHeld7 => ?_)
          clear hK K
          try simp only [Act.put, List.setIfInBounds_toArray, List.set_cons_zero, List.set_cons_succ]
          refine tk (v := ?_) 8 ?_ ?_
          rotate_left
          · intro w hSw
            (try dsimp only at hSw)
            first | (go_simp; done) | (go_simp; with_reducible rfl) | with_reducible rfl
          simp only [Act.put, List.setIfInBounds_toArray, List.set_cons_zero, List.set_cons_succ]
          refine tk (v := ?_) 9 ?_ ?_
          rotate_left
          · intro w hSw
            (try dsimp only at hSw)
            first | (go_simp; done) | (go_simp; with_reducible rfl) | with_reducible rfl
          simp only [Act.put, List.setIfInBounds_toArray, List.set_cons_zero, List.set_cons_succ]
          refine wpAnyH_done (by kernel_rfl) ?_ _
          go_wp2_with fail
          go_meet
          exact ⟨by simp, M7.out.pl HB2.out (by rw [HH2.out]; omega), M7.out.xb⟩
      by_cases hk6 : kind = 6
      · as_aux_lemma =>
          subst hk6
          clear hk1 hk2 hk3 hk4 hk5
          have HF := hid (fun W (n : New W5 W) => rFormat_any ⟨cport, names, cook⟩ na nc W (HOK5.out.msg.new n) (HV.out W (Mod.trans M5.out.new n)).tab)
          have x3 := M5.out.xb.cellv 3 rfl; have x7 := M5.out.xb.cellv 7 rfl; have x8 := M5.out.xb.cellv 8 rfl; have x9 := M5.out.xb.cellv 9 rfl; have xl := M5.out.xb.lt
          cases hvm : validM ⟨cport, names, cook⟩ with
          | true =>
            obtain ⟨S, hS⟩ : ∃ S, S = fmtB ⟨cport, names, cook⟩ := ⟨_, rfl⟩
            have hSz : S.size ≤ maxLen := by rw [hS]; unfold fmtB; rw [if_pos hvm, mkB_size]; have := written_len hvm; unfold maxLen; omega
            rw [← hS, show fmtE ⟨cport, names, cook⟩ = 0 by unfold fmtE; rw [if_pos hvm]] at HF
            clear hS hvm
            go_wp2_with fail
            refine (HF.out _ (Mod.refl _ _)).mono ?_
            rintro e w6 ⟨rfl, n6⟩
            have M6 := hid (M5.out.step n6)
            clear n6
            have hE := B5.out.hearE (NOW + later) ⟨fam, ip, aport⟩ S
            have HVR := hid (fun W (n : New w W) W' (m : Mod (· = R) W W') => HV.out W' (Mod.trans' n m (fun z hz q => by have := HZR.out; omega)))
            by_cases gh : c.hearE (NOW + later) ⟨fam, ip, aport⟩ S = 0
            · have grh : r.hearE (NOW + later) ⟨fam, ip, aport⟩ S = 0 := by rw [← hE]; exact gh
              have hvp := ps_valid (hear_parts gh).2.2.2.1
              have hpl : (psM S).names.length ≤ 20 := (namesB_iff.1 (valid_parts hvp).2.1).2.2
              have hpn : ∀ n ∈ (psM S).names, n.size = 20 := fun n hn => namesB_size (valid_parts hvp).2.1 hn
              have HCC := hid (hear_yes B M H c (NOW + later) ⟨fam, ip, aport⟩ S w6 M6.out.cr (HV.out _ M6.out.new) HOK5.out.ip B5.out.ok.now.1 B5.out.hb B5.out.ok.min gh hpl B5.out.ok.cook.2 hpn)
              have HRR := hid (fun W (q : RcAt W R aa ah ca ch r) (n : New w W) => rHear_yes R aa ah ca ch r (NOW + later) ⟨fam, ip, aport⟩ S W q B5.out.rok (HVR.out W n) HOK5.out.ip grh hpl (by omega))
              have HB2 := hid (B5.out.hear gh (by omega))
              rw [← B5.out.inR] at HRR
              obtain ⟨NS, hNS⟩ : ∃ NS, NS = (psM S).names.filter (inB c.all) := ⟨_, rfl⟩
              obtain ⟨PO, hPO⟩ : ∃ PO, PO = (psM S).port := ⟨_, rfl⟩
              rw [← hNS, ← hPO] at HCC HRR
              have hNl : NS.length ≤ 20 := by rw [hNS]; exact Nat.le_trans (List.length_filter_le _ _) hpl
              simp only at HCC HRR HB2
              have x4 := M6.out.xb.cellv 4 rfl; have x5 := M6.out.xb.cellv 5 rfl; have x6 := M6.out.xb.cellv 6 rfl; have xl := M6.out.xb.lt
              clear hE gh grh hvp hpl hpn hNS hPO
              go_wp2_with fail
              refine HCC.out.mono ?_
              rintro e w7 ⟨H7, a7, cap7, rfl, s7, cc7, z7, m7, b7⟩
              obtain ⟨H8, m8⟩ := M6.out.c ⟨H7, cc7, z7, m7.mono (fun _ _ q => by rcases q with q | q; exact .inl q; exact .inr (.inr q))⟩
              have M7 := hid m8
              have S7 := hid s7
              have HB7 := hid b7
              have hz67 := m7.size
              clear s7 cc7 z7 m7 b7 m8 x4 x5 x6 xl
              have x4 := M7.out.xb.cellv 4 rfl; have x5 := M7.out.xb.cellv 5 rfl; have x6 := M7.out.xb.cellv 6 rfl; have xl := M7.out.xb.lt
              go_wp2_with fail
              refine name_worldC (p := fun W => Calls _ _ _ W _) (fun W8 hW8 => ?_)
              have n8 : New w7 W8 := by rw [hW8]; exact (Mod.refl _ _).alloc _
              have T8 : Hid (Blk W8 w7.heap.size #[.int .i64 fam, .string ip, .int .i64 PO] 40) := hid (by rw [hW8]; exact Blk.new w7 _ _)
              have M8 := hid (M7.out.step n8)
              have S8 := hid (S7.out.new n8)
              clear hW8 n8 x4 x5 x6 xl
              refine (HRR.out _ M8.out.rc M8.out.new).mono ?_
              rintro e w9 ⟨ah9, ch9, a9, cap9, rfl, s9, rc9, m9⟩
              have hm9 : Mod (RcT R aa ah) W8 w9 := m9.mono (fun _ _ q => by rcases q with q | q; exact .inl q; exact .inr (.inr q))
              have hlow : ∀ k, RcT R aa ah k → k < w6.heap.size := fun k q => (M6.out.rc.over k q).2
              have T9 := hid (hm9.blk T8.out (fun q => by have := hlow _ q; omega))
              have S9 := hid (S8.out.far hm9 (fun x hx q => by have h1 := hlow _ q; have h2 := HB7.out x hx; omega))
              have S9b := hid s9
              obtain ⟨aa9, ah9, ca9, ch9, mm9⟩ := M8.out.r ⟨aa, ah9, ca, ch9, rc9, hm9⟩
              have M9 := hid mm9
              clear s9 rc9 m9 hm9 hlow mm9
              go_wp2_with fail
              refine name_worldC (p := fun W => Calls _ _ _ W _) (fun WA hWA => ?_)
              have nA : New w9 WA := by rw [hWA]; exact (Mod.refl _ _).alloc _
              have TA : Hid (Blk WA w9.heap.size #[.int .i64 fam, .string ip, .int .i64 PO] 40) := hid (by rw [hWA]; exact Blk.new w9 _ _)
              have TB := hid (New.blk nA T9.out)
              have MA := hid (M9.out.step nA)
              have HST := hid (sameTexts_eq a7 a9 cap7 cap9 NS WA (S9.out.new nA) (S9b.out.new nA))
              clear hWA nA
              refine HST.out.mono ?_
              rintro e w11 ⟨rfl, n11⟩
              have MB2 := hid (MA.out.step n11)
              have p0 := (New.blk n11 TA.out).cellv 0 rfl; have p1 := (New.blk n11 TA.out).cellv 1 rfl; have p2 := (New.blk n11 TA.out).cellv 2 rfl; have pl := (New.blk n11 TA.out).lt
              have q0 := (New.blk n11 TB.out).cellv 0 rfl; have q1 := (New.blk n11 TB.out).cellv 1 rfl; have q2 := (New.blk n11 TB.out).cellv 2 rfl; have ql := (New.blk n11 TB.out).lt
              clear n11
              go_wp2_with fail
              go_meet
              exact ⟨by simp, MB2.out.pl HB2.out (by show (r.heard ++ [_]).length ≤ _; rw [List.length_append, List.length_singleton]; omega), MB2.out.xb⟩
            · have grh : r.hearE (NOW + later) ⟨fam, ip, aport⟩ S ≠ 0 := by rw [← hE]; exact gh
              have HCC := hid (hear_no B M H c (NOW + later) ⟨fam, ip, aport⟩ S w6 M6.out.cr (HV.out _ M6.out.new) HOK5.out.ip hSz B5.out.ok.now.1 gh)
              have HRR := hid (fun W (q : RcAt W R aa ah ca ch r) (n : New w W) => rHear_no R aa ah ca ch r (NOW + later) ⟨fam, ip, aport⟩ S W q B5.out.rok (HVR.out W n) HOK5.out.ip hSz grh)
              rw [← hE] at HRR
              obtain ⟨E, hEE⟩ : ∃ E, E = c.hearE (NOW + later) ⟨fam, ip, aport⟩ S := ⟨_, rfl⟩
              rw [← hEE] at HCC HRR
              simp only [adr0] at HCC HRR
              have x4 := M6.out.xb.cellv 4 rfl; have x5 := M6.out.xb.cellv 5 rfl; have x6 := M6.out.xb.cellv 6 rfl; have xl := M6.out.xb.lt
              clear hE gh grh hEE
              go_wp2_with fail
              refine HCC.out.mono ?_
              rintro e w7 ⟨rfl, n7⟩
              have M7 := hid (M6.out.step n7)
              have hz67 := n7.size
              clear n7 x4 x5 x6 xl
              have x4 := M7.out.xb.cellv 4 rfl; have x5 := M7.out.xb.cellv 5 rfl; have x6 := M7.out.xb.cellv 6 rfl; have xl := M7.out.xb.lt
              go_wp2_with fail
              refine name_worldC (p := fun W => Calls _ _ _ W _) (fun W8 hW8 => ?_)
              have n8 : New w7 W8 := by rw [hW8]; exact (Mod.refl _ _).alloc _
              have T8 : Hid (Blk W8 w7.heap.size #[.int .i64 0, .string ⟨#[]⟩, .int .i64 0] 40) := hid (by rw [hW8]; exact Blk.new w7 _ _)
              have M8 := hid (M7.out.step n8)
              clear hW8 n8 x4 x5 x6 xl
              refine (HRR.out _ M8.out.rc M8.out.new).mono ?_
              rintro e w9 ⟨rfl, rc9, m9⟩
              have T9 := hid (m9.blk T8.out (fun q => by have := M6.out.rc.row.lt; omega))
              obtain ⟨aa9, ah9, ca9, ch9, mm9⟩ := M8.out.r ⟨aa, ah, ca, ch, rc9, m9.mono (fun _ _ q => .inl q)⟩
              have M9 := hid mm9
              clear rc9 m9 mm9
              go_wp2_with fail
              refine name_worldC (p := fun W => Calls _ _ _ W _) (fun WA hWA => ?_)
              have nA : New w9 WA := by rw [hWA]; exact (Mod.refl _ _).alloc _
              have TA : Hid (Blk WA w9.heap.size #[.int .i64 0, .string ⟨#[]⟩, .int .i64 0] 40) := hid (by rw [hWA]; exact Blk.new w9 _ _)
              have TB := hid (New.blk nA T9.out)
              have MA := hid (M9.out.step nA)
              have hno : StrsAt WA none 0 [] := ⟨by simp, by simp [maxLen], by simp, .inl rfl⟩
              have HST : Hid (Calls Tryz.prog 15 #[.slice none 0 0, .slice none 0 0] WA fun e w' => e = .returned (.bool true) ∧ New WA w') := hid (sameTexts_eq none none 0 0 [] WA hno hno)
              clear hWA nA hno
              refine HST.out.mono ?_
              rintro e w11 ⟨rfl, n11⟩
              have MB2 := hid (MA.out.step n11)
              have p0 := (New.blk n11 TA.out).cellv 0 rfl; have p1 := (New.blk n11 TA.out).cellv 1 rfl; have p2 := (New.blk n11 TA.out).cellv 2 rfl; have pl := (New.blk n11 TA.out).lt
              have q0 := (New.blk n11 TB.out).cellv 0 rfl; have q1 := (New.blk n11 TB.out).cellv 1 rfl; have q2 := (New.blk n11 TB.out).cellv 2 rfl; have ql := (New.blk n11 TB.out).lt
              clear n11
              go_wp2_with fail
              go_meet
              exact ⟨by simp, MB2.out.pl B5.out (by omega), MB2.out.xb⟩
          | false =>
            have hSz : text.size ≤ maxLen := by unfold maxLen; omega
            rw [show fmtE ⟨cport, names, cook⟩ = 1 by unfold fmtE; rw [if_neg (by rw [hvm]; decide)]] at HF
            obtain ⟨FB, hFB⟩ : ∃ FB, FB = fmtB ⟨cport, names, cook⟩ := ⟨_, rfl⟩
            rw [← hFB] at HF
            clear hFB hvm
            go_wp2_with fail
            refine (HF.out _ (Mod.refl _ _)).mono ?_
            rintro e w6 ⟨rfl, n6⟩
            have M6 := hid (M5.out.step n6)
            clear n6
            have hE := B5.out.hearE (NOW + later) ⟨fam, ip, aport⟩ text
            have HVR := hid (fun W (n : New w W) W' (m : Mod (· = R) W W') => HV.out W' (Mod.trans' n m (fun z hz q => by have := HZR.out; omega)))
            by_cases gh : c.hearE (NOW + later) ⟨fam, ip, aport⟩ text = 0
            · have grh : r.hearE (NOW + later) ⟨fam, ip, aport⟩ text = 0 := by rw [← hE]; exact gh
              have hvp := ps_valid (hear_parts gh).2.2.2.1
              have hpl : (psM text).names.length ≤ 20 := (namesB_iff.1 (valid_parts hvp).2.1).2.2
              have hpn : ∀ n ∈ (psM text).names, n.size = 20 := fun n hn => namesB_size (valid_parts hvp).2.1 hn
              have HCC := hid (hear_yes B M H c (NOW + later) ⟨fam, ip, aport⟩ text w6 M6.out.cr (HV.out _ M6.out.new) HOK5.out.ip B5.out.ok.now.1 B5.out.hb B5.out.ok.min gh hpl B5.out.ok.cook.2 hpn)
              have HRR := hid (fun W (q : RcAt W R aa ah ca ch r) (n : New w W) => rHear_yes R aa ah ca ch r (NOW + later) ⟨fam, ip, aport⟩ text W q B5.out.rok (HVR.out W n) HOK5.out.ip grh hpl (by omega))
              have HB2 := hid (B5.out.hear gh (by omega))
              rw [← B5.out.inR] at HRR
              obtain ⟨NS, hNS⟩ : ∃ NS, NS = (psM text).names.filter (inB c.all) := ⟨_, rfl⟩
              obtain ⟨PO, hPO⟩ : ∃ PO, PO = (psM text).port := ⟨_, rfl⟩
              rw [← hNS, ← hPO] at HCC HRR
              have hNl : NS.length ≤ 20 := by rw [hNS]; exact Nat.le_trans (List.length_filter_le _ _) hpl
              simp only at HCC HRR HB2
              have x4 := M6.out.xb.cellv 4 rfl; have x5 := M6.out.xb.cellv 5 rfl; have x6 := M6.out.xb.cellv 6 rfl; have xl := M6.out.xb.lt
              clear hE gh grh hvp hpl hpn hNS hPO
              go_wp2_with fail
              refine HCC.out.mono ?_
              rintro e w7 ⟨H7, a7, cap7, rfl, s7, cc7, z7, m7, b7⟩
              obtain ⟨H8, m8⟩ := M6.out.c ⟨H7, cc7, z7, m7.mono (fun _ _ q => by rcases q with q | q; exact .inl q; exact .inr (.inr q))⟩
              have M7 := hid m8
              have S7 := hid s7
              have HB7 := hid b7
              have hz67 := m7.size
              clear s7 cc7 z7 m7 b7 m8 x4 x5 x6 xl
              have x4 := M7.out.xb.cellv 4 rfl; have x5 := M7.out.xb.cellv 5 rfl; have x6 := M7.out.xb.cellv 6 rfl; have xl := M7.out.xb.lt
              go_wp2_with fail
              refine name_worldC (p := fun W => Calls _ _ _ W _) (fun W8 hW8 => ?_)
              have n8 : New w7 W8 := by rw [hW8]; exact (Mod.refl _ _).alloc _
              have T8 : Hid (Blk W8 w7.heap.size #[.int .i64 fam, .string ip, .int .i64 PO] 40) := hid (by rw [hW8]; exact Blk.new w7 _ _)
              have M8 := hid (M7.out.step n8)
              have S8 := hid (S7.out.new n8)
              clear hW8 n8 x4 x5 x6 xl
              refine (HRR.out _ M8.out.rc M8.out.new).mono ?_
              rintro e w9 ⟨ah9, ch9, a9, cap9, rfl, s9, rc9, m9⟩
              have hm9 : Mod (RcT R aa ah) W8 w9 := m9.mono (fun _ _ q => by rcases q with q | q; exact .inl q; exact .inr (.inr q))
              have hlow : ∀ k, RcT R aa ah k → k < w6.heap.size := fun k q => (M6.out.rc.over k q).2
              have T9 := hid (hm9.blk T8.out (fun q => by have := hlow _ q; omega))
              have S9 := hid (S8.out.far hm9 (fun x hx q => by have h1 := hlow _ q; have h2 := HB7.out x hx; omega))
              have S9b := hid s9
              obtain ⟨aa9, ah9, ca9, ch9, mm9⟩ := M8.out.r ⟨aa, ah9, ca, ch9, rc9, hm9⟩
              have M9 := hid mm9
              clear s9 rc9 m9 hm9 hlow mm9
              go_wp2_with fail
              refine name_worldC (p := fun W => Calls _ _ _ W _) (fun WA hWA => ?_)
              have nA : New w9 WA := by rw [hWA]; exact (Mod.refl _ _).alloc _
              have TA : Hid (Blk WA w9.heap.size #[.int .i64 fam, .string ip, .int .i64 PO] 40) := hid (by rw [hWA]; exact Blk.new w9 _ _)
              have TB := hid (New.blk nA T9.out)
              have MA := hid (M9.out.step nA)
              have HST := hid (sameTexts_eq a7 a9 cap7 cap9 NS WA (S9.out.new nA) (S9b.out.new nA))
              clear hWA nA
              refine HST.out.mono ?_
              rintro e w11 ⟨rfl, n11⟩
              have MB2 := hid (MA.out.step n11)
              have p0 := (New.blk n11 TA.out).cellv 0 rfl; have p1 := (New.blk n11 TA.out).cellv 1 rfl; have p2 := (New.blk n11 TA.out).cellv 2 rfl; have pl := (New.blk n11 TA.out).lt
              have q0 := (New.blk n11 TB.out).cellv 0 rfl; have q1 := (New.blk n11 TB.out).cellv 1 rfl; have q2 := (New.blk n11 TB.out).cellv 2 rfl; have ql := (New.blk n11 TB.out).lt
              clear n11
              go_wp2_with fail
              go_meet
              exact ⟨by simp, MB2.out.pl HB2.out (by show (r.heard ++ [_]).length ≤ _; rw [List.length_append, List.length_singleton]; omega), MB2.out.xb⟩
            · have grh : r.hearE (NOW + later) ⟨fam, ip, aport⟩ text ≠ 0 := by rw [← hE]; exact gh
              have HCC := hid (hear_no B M H c (NOW + later) ⟨fam, ip, aport⟩ text w6 M6.out.cr (HV.out _ M6.out.new) HOK5.out.ip hSz B5.out.ok.now.1 gh)
              have HRR := hid (fun W (q : RcAt W R aa ah ca ch r) (n : New w W) => rHear_no R aa ah ca ch r (NOW + later) ⟨fam, ip, aport⟩ text W q B5.out.rok (HVR.out W n) HOK5.out.ip hSz grh)
              rw [← hE] at HRR
              obtain ⟨E, hEE⟩ : ∃ E, E = c.hearE (NOW + later) ⟨fam, ip, aport⟩ text := ⟨_, rfl⟩
              rw [← hEE] at HCC HRR
              simp only [adr0] at HCC HRR
              have x4 := M6.out.xb.cellv 4 rfl; have x5 := M6.out.xb.cellv 5 rfl; have x6 := M6.out.xb.cellv 6 rfl; have xl := M6.out.xb.lt
              clear hE gh grh hEE
              go_wp2_with fail
              refine HCC.out.mono ?_
              rintro e w7 ⟨rfl, n7⟩
              have M7 := hid (M6.out.step n7)
              have hz67 := n7.size
              clear n7 x4 x5 x6 xl
              have x4 := M7.out.xb.cellv 4 rfl; have x5 := M7.out.xb.cellv 5 rfl; have x6 := M7.out.xb.cellv 6 rfl; have xl := M7.out.xb.lt
              go_wp2_with fail
              refine name_worldC (p := fun W => Calls _ _ _ W _) (fun W8 hW8 => ?_)
              have n8 : New w7 W8 := by rw [hW8]; exact (Mod.refl _ _).alloc _
              have T8 : Hid (Blk W8 w7.heap.size #[.int .i64 0, .string ⟨#[]⟩, .int .i64 0] 40) := hid (by rw [hW8]; exact Blk.new w7 _ _)
              have M8 := hid (M7.out.step n8)
              clear hW8 n8 x4 x5 x6 xl
              refine (HRR.out _ M8.out.rc M8.out.new).mono ?_
              rintro e w9 ⟨rfl, rc9, m9⟩
              have T9 := hid (m9.blk T8.out (fun q => by have := M6.out.rc.row.lt; omega))
              obtain ⟨aa9, ah9, ca9, ch9, mm9⟩ := M8.out.r ⟨aa, ah, ca, ch, rc9, m9.mono (fun _ _ q => .inl q)⟩
              have M9 := hid mm9
              clear rc9 m9 mm9
              go_wp2_with fail
              refine name_worldC (p := fun W => Calls _ _ _ W _) (fun WA hWA => ?_)
              have nA : New w9 WA := by rw [hWA]; exact (Mod.refl _ _).alloc _
              have TA : Hid (Blk WA w9.heap.size #[.int .i64 0, .string ⟨#[]⟩, .int .i64 0] 40) := hid (by rw [hWA]; exact Blk.new w9 _ _)
              have TB := hid (New.blk nA T9.out)
              have MA := hid (M9.out.step nA)
              have hno : StrsAt WA none 0 [] := ⟨by simp, by simp [maxLen], by simp, .inl rfl⟩
              have HST : Hid (Calls Tryz.prog 15 #[.slice none 0 0, .slice none 0 0] WA fun e w' => e = .returned (.bool true) ∧ New WA w') := hid (sameTexts_eq none none 0 0 [] WA hno hno)
              clear hWA nA hno
              refine HST.out.mono ?_
              rintro e w11 ⟨rfl, n11⟩
              have MB2 := hid (MA.out.step n11)
              have p0 := (New.blk n11 TA.out).cellv 0 rfl; have p1 := (New.blk n11 TA.out).cellv 1 rfl; have p2 := (New.blk n11 TA.out).cellv 2 rfl; have pl := (New.blk n11 TA.out).lt
              have q0 := (New.blk n11 TB.out).cellv 0 rfl; have q1 := (New.blk n11 TB.out).cellv 1 rfl; have q2 := (New.blk n11 TB.out).cellv 2 rfl; have ql := (New.blk n11 TB.out).lt
              clear n11
              go_wp2_with fail
              go_meet
              exact ⟨by simp, MB2.out.pl B5.out (by omega), MB2.out.xb⟩
      by_cases hk7 : kind = 7
      · as_aux_lemma =>
          subst hk7
          clear hk1 hk2 hk3 hk4 hk5 hk6
          have HF := hid (fun W (n : New W5 W) => rFormat_any ⟨cport, names, cook⟩ na nc W (HOK5.out.msg.new n) (HV.out W (Mod.trans M5.out.new n)).tab)
          have x3 := M5.out.xb.cellv 3 rfl; have x7 := M5.out.xb.cellv 7 rfl; have x8 := M5.out.xb.cellv 8 rfl; have x9 := M5.out.xb.cellv 9 rfl; have xl := M5.out.xb.lt
          cases hvm : validM ⟨cport, names, cook⟩ with
          | true =>
            obtain ⟨S, hS⟩ : ∃ S, S = fmtB ⟨cport, names, cook⟩ := ⟨_, rfl⟩
            have hSz : S.size ≤ maxLen := by rw [hS]; unfold fmtB; rw [if_pos hvm, mkB_size]; have := written_len hvm; unfold maxLen; omega
            rw [← hS, show fmtE ⟨cport, names, cook⟩ = 0 by unfold fmtE; rw [if_pos hvm]] at HF
            clear hS hvm
            go_wp2_with fail
            refine (HF.out _ (Mod.refl _ _)).mono ?_
            rintro e w6 ⟨rfl, n6⟩
            have M6 := hid (M5.out.step n6)
            clear n6
            have hE := B5.out.hearE (NOW + later) ⟨fam, ip, aport⟩ S
            have HVR := hid (fun W (n : New w W) W' (m : Mod (· = R) W W') => HV.out W' (Mod.trans' n m (fun z hz q => by have := HZR.out; omega)))
            by_cases gh : c.hearE (NOW + later) ⟨fam, ip, aport⟩ S = 0
            · have grh : r.hearE (NOW + later) ⟨fam, ip, aport⟩ S = 0 := by rw [← hE]; exact gh
              have hvp := ps_valid (hear_parts gh).2.2.2.1
              have hpl : (psM S).names.length ≤ 20 := (namesB_iff.1 (valid_parts hvp).2.1).2.2
              have hpn : ∀ n ∈ (psM S).names, n.size = 20 := fun n hn => namesB_size (valid_parts hvp).2.1 hn
              have HCC := hid (hear_yes B M H c (NOW + later) ⟨fam, ip, aport⟩ S w6 M6.out.cr (HV.out _ M6.out.new) HOK5.out.ip B5.out.ok.now.1 B5.out.hb B5.out.ok.min gh hpl B5.out.ok.cook.2 hpn)
              have HRR := hid (fun W (q : RcAt W R aa ah ca ch r) (n : New w W) => rHear_yes R aa ah ca ch r (NOW + later) ⟨fam, ip, aport⟩ S W q B5.out.rok (HVR.out W n) HOK5.out.ip grh hpl (by omega))
              have HB2 := hid (B5.out.hear gh (by omega))
              rw [← B5.out.inR] at HRR
              obtain ⟨NS, hNS⟩ : ∃ NS, NS = (psM S).names.filter (inB c.all) := ⟨_, rfl⟩
              obtain ⟨PO, hPO⟩ : ∃ PO, PO = (psM S).port := ⟨_, rfl⟩
              rw [← hNS, ← hPO] at HCC HRR
              have hNl : NS.length ≤ 20 := by rw [hNS]; exact Nat.le_trans (List.length_filter_le _ _) hpl
              simp only at HCC HRR HB2
              have x4 := M6.out.xb.cellv 4 rfl; have x5 := M6.out.xb.cellv 5 rfl; have x6 := M6.out.xb.cellv 6 rfl; have xl := M6.out.xb.lt
              clear hE gh grh hvp hpl hpn hNS hPO
              go_wp2_with fail
              refine HCC.out.mono ?_
              rintro e w7 ⟨H7, a7, cap7, rfl, s7, cc7, z7, m7, b7⟩
              obtain ⟨H8, m8⟩ := M6.out.c ⟨H7, cc7, z7, m7.mono (fun _ _ q => by rcases q with q | q; exact .inl q; exact .inr (.inr q))⟩
              have M7 := hid m8
              have S7 := hid s7
              have HB7 := hid b7
              have hz67 := m7.size
              clear s7 cc7 z7 m7 b7 m8 x4 x5 x6 xl
              have x4 := M7.out.xb.cellv 4 rfl; have x5 := M7.out.xb.cellv 5 rfl; have x6 := M7.out.xb.cellv 6 rfl; have xl := M7.out.xb.lt
              go_wp2_with fail
              refine name_worldC (p := fun W => Calls _ _ _ W _) (fun W8 hW8 => ?_)
              have n8 : New w7 W8 := by rw [hW8]; exact (Mod.refl _ _).alloc _
              have T8 : Hid (Blk W8 w7.heap.size #[.int .i64 fam, .string ip, .int .i64 PO] 40) := hid (by rw [hW8]; exact Blk.new w7 _ _)
              have M8 := hid (M7.out.step n8)
              have S8 := hid (S7.out.new n8)
              clear hW8 n8 x4 x5 x6 xl
              refine (HRR.out _ M8.out.rc M8.out.new).mono ?_
              rintro e w9 ⟨ah9, ch9, a9, cap9, rfl, s9, rc9, m9⟩
              have hm9 : Mod (RcT R aa ah) W8 w9 := m9.mono (fun _ _ q => by rcases q with q | q; exact .inl q; exact .inr (.inr q))
              have hlow : ∀ k, RcT R aa ah k → k < w6.heap.size := fun k q => (M6.out.rc.over k q).2
              have T9 := hid (hm9.blk T8.out (fun q => by have := hlow _ q; omega))
              have S9 := hid (S8.out.far hm9 (fun x hx q => by have h1 := hlow _ q; have h2 := HB7.out x hx; omega))
              have S9b := hid s9
              obtain ⟨aa9, ah9, ca9, ch9, mm9⟩ := M8.out.r ⟨aa, ah9, ca, ch9, rc9, hm9⟩
              have M9 := hid mm9
              clear s9 rc9 m9 hm9 hlow mm9
              go_wp2_with fail
              refine name_worldC (p := fun W => Calls _ _ _ W _) (fun WA hWA => ?_)
              have nA : New w9 WA := by rw [hWA]; exact (Mod.refl _ _).alloc _
              have TA : Hid (Blk WA w9.heap.size #[.int .i64 fam, .string ip, .int .i64 PO] 40) := hid (by rw [hWA]; exact Blk.new w9 _ _)
              have TB := hid (New.blk nA T9.out)
              have MA := hid (M9.out.step nA)
              have HST := hid (sameTexts_eq a7 a9 cap7 cap9 NS WA (S9.out.new nA) (S9b.out.new nA))
              clear hWA nA
              refine HST.out.mono ?_
              rintro e w11 ⟨rfl, n11⟩
              have MB2 := hid (MA.out.step n11)
              have p0 := (New.blk n11 TA.out).cellv 0 rfl; have p1 := (New.blk n11 TA.out).cellv 1 rfl; have p2 := (New.blk n11 TA.out).cellv 2 rfl; have pl := (New.blk n11 TA.out).lt
              have q0 := (New.blk n11 TB.out).cellv 0 rfl; have q1 := (New.blk n11 TB.out).cellv 1 rfl; have q2 := (New.blk n11 TB.out).cellv 2 rfl; have ql := (New.blk n11 TB.out).lt
              clear n11
              go_wp2_with fail
              go_meet
              exact ⟨by simp, MB2.out.pl HB2.out (by show (r.heard ++ [_]).length ≤ _; rw [List.length_append, List.length_singleton]; omega), MB2.out.xb⟩
            · have grh : r.hearE (NOW + later) ⟨fam, ip, aport⟩ S ≠ 0 := by rw [← hE]; exact gh
              have HCC := hid (hear_no B M H c (NOW + later) ⟨fam, ip, aport⟩ S w6 M6.out.cr (HV.out _ M6.out.new) HOK5.out.ip hSz B5.out.ok.now.1 gh)
              have HRR := hid (fun W (q : RcAt W R aa ah ca ch r) (n : New w W) => rHear_no R aa ah ca ch r (NOW + later) ⟨fam, ip, aport⟩ S W q B5.out.rok (HVR.out W n) HOK5.out.ip hSz grh)
              rw [← hE] at HRR
              obtain ⟨E, hEE⟩ : ∃ E, E = c.hearE (NOW + later) ⟨fam, ip, aport⟩ S := ⟨_, rfl⟩
              rw [← hEE] at HCC HRR
              simp only [adr0] at HCC HRR
              have x4 := M6.out.xb.cellv 4 rfl; have x5 := M6.out.xb.cellv 5 rfl; have x6 := M6.out.xb.cellv 6 rfl; have xl := M6.out.xb.lt
              clear hE gh grh hEE
              go_wp2_with fail
              refine HCC.out.mono ?_
              rintro e w7 ⟨rfl, n7⟩
              have M7 := hid (M6.out.step n7)
              have hz67 := n7.size
              clear n7 x4 x5 x6 xl
              have x4 := M7.out.xb.cellv 4 rfl; have x5 := M7.out.xb.cellv 5 rfl; have x6 := M7.out.xb.cellv 6 rfl; have xl := M7.out.xb.lt
              go_wp2_with fail
              refine name_worldC (p := fun W => Calls _ _ _ W _) (fun W8 hW8 => ?_)
              have n8 : New w7 W8 := by rw [hW8]; exact (Mod.refl _ _).alloc _
              have T8 : Hid (Blk W8 w7.heap.size #[.int .i64 0, .string ⟨#[]⟩, .int .i64 0] 40) := hid (by rw [hW8]; exact Blk.new w7 _ _)
              have M8 := hid (M7.out.step n8)
              clear hW8 n8 x4 x5 x6 xl
              refine (HRR.out _ M8.out.rc M8.out.new).mono ?_
              rintro e w9 ⟨rfl, rc9, m9⟩
              have T9 := hid (m9.blk T8.out (fun q => by have := M6.out.rc.row.lt; omega))
              obtain ⟨aa9, ah9, ca9, ch9, mm9⟩ := M8.out.r ⟨aa, ah, ca, ch, rc9, m9.mono (fun _ _ q => .inl q)⟩
              have M9 := hid mm9
              clear rc9 m9 mm9
              go_wp2_with fail
              refine name_worldC (p := fun W => Calls _ _ _ W _) (fun WA hWA => ?_)
              have nA : New w9 WA := by rw [hWA]; exact (Mod.refl _ _).alloc _
              have TA : Hid (Blk WA w9.heap.size #[.int .i64 0, .string ⟨#[]⟩, .int .i64 0] 40) := hid (by rw [hWA]; exact Blk.new w9 _ _)
              have TB := hid (New.blk nA T9.out)
              have MA := hid (M9.out.step nA)
              have hno : StrsAt WA none 0 [] := ⟨by simp, by simp [maxLen], by simp, .inl rfl⟩
              have HST : Hid (Calls Tryz.prog 15 #[.slice none 0 0, .slice none 0 0] WA fun e w' => e = .returned (.bool true) ∧ New WA w') := hid (sameTexts_eq none none 0 0 [] WA hno hno)
              clear hWA nA hno
              refine HST.out.mono ?_
              rintro e w11 ⟨rfl, n11⟩
              have MB2 := hid (MA.out.step n11)
              have p0 := (New.blk n11 TA.out).cellv 0 rfl; have p1 := (New.blk n11 TA.out).cellv 1 rfl; have p2 := (New.blk n11 TA.out).cellv 2 rfl; have pl := (New.blk n11 TA.out).lt
              have q0 := (New.blk n11 TB.out).cellv 0 rfl; have q1 := (New.blk n11 TB.out).cellv 1 rfl; have q2 := (New.blk n11 TB.out).cellv 2 rfl; have ql := (New.blk n11 TB.out).lt
              clear n11
              go_wp2_with fail
              go_meet
              exact ⟨by simp, MB2.out.pl B5.out (by omega), MB2.out.xb⟩
          | false =>
            have hSz : text.size ≤ maxLen := by unfold maxLen; omega
            rw [show fmtE ⟨cport, names, cook⟩ = 1 by unfold fmtE; rw [if_neg (by rw [hvm]; decide)]] at HF
            obtain ⟨FB, hFB⟩ : ∃ FB, FB = fmtB ⟨cport, names, cook⟩ := ⟨_, rfl⟩
            rw [← hFB] at HF
            clear hFB hvm
            go_wp2_with fail
            refine (HF.out _ (Mod.refl _ _)).mono ?_
            rintro e w6 ⟨rfl, n6⟩
            have M6 := hid (M5.out.step n6)
            clear n6
            have hE := B5.out.hearE (NOW + later) ⟨fam, ip, aport⟩ text
            have HVR := hid (fun W (n : New w W) W' (m : Mod (· = R) W W') => HV.out W' (Mod.trans' n m (fun z hz q => by have := HZR.out; omega)))
            by_cases gh : c.hearE (NOW + later) ⟨fam, ip, aport⟩ text = 0
            · have grh : r.hearE (NOW + later) ⟨fam, ip, aport⟩ text = 0 := by rw [← hE]; exact gh
              have hvp := ps_valid (hear_parts gh).2.2.2.1
              have hpl : (psM text).names.length ≤ 20 := (namesB_iff.1 (valid_parts hvp).2.1).2.2
              have hpn : ∀ n ∈ (psM text).names, n.size = 20 := fun n hn => namesB_size (valid_parts hvp).2.1 hn
              have HCC := hid (hear_yes B M H c (NOW + later) ⟨fam, ip, aport⟩ text w6 M6.out.cr (HV.out _ M6.out.new) HOK5.out.ip B5.out.ok.now.1 B5.out.hb B5.out.ok.min gh hpl B5.out.ok.cook.2 hpn)
              have HRR := hid (fun W (q : RcAt W R aa ah ca ch r) (n : New w W) => rHear_yes R aa ah ca ch r (NOW + later) ⟨fam, ip, aport⟩ text W q B5.out.rok (HVR.out W n) HOK5.out.ip grh hpl (by omega))
              have HB2 := hid (B5.out.hear gh (by omega))
              rw [← B5.out.inR] at HRR
              obtain ⟨NS, hNS⟩ : ∃ NS, NS = (psM text).names.filter (inB c.all) := ⟨_, rfl⟩
              obtain ⟨PO, hPO⟩ : ∃ PO, PO = (psM text).port := ⟨_, rfl⟩
              rw [← hNS, ← hPO] at HCC HRR
              have hNl : NS.length ≤ 20 := by rw [hNS]; exact Nat.le_trans (List.length_filter_le _ _) hpl
              simp only at HCC HRR HB2
              have x4 := M6.out.xb.cellv 4 rfl; have x5 := M6.out.xb.cellv 5 rfl; have x6 := M6.out.xb.cellv 6 rfl; have xl := M6.out.xb.lt
              clear hE gh grh hvp hpl hpn hNS hPO
              go_wp2_with fail
              refine HCC.out.mono ?_
              rintro e w7 ⟨H7, a7, cap7, rfl, s7, cc7, z7, m7, b7⟩
              obtain ⟨H8, m8⟩ := M6.out.c ⟨H7, cc7, z7, m7.mono (fun _ _ q => by rcases q with q | q; exact .inl q; exact .inr (.inr q))⟩
              have M7 := hid m8
              have S7 := hid s7
              have HB7 := hid b7
              have hz67 := m7.size
              clear s7 cc7 z7 m7 b7 m8 x4 x5 x6 xl
              have x4 := M7.out.xb.cellv 4 rfl; have x5 := M7.out.xb.cellv 5 rfl; have x6 := M7.out.xb.cellv 6 rfl; have xl := M7.out.xb.lt
              go_wp2_with fail
              refine name_worldC (p := fun W => Calls _ _ _ W _) (fun W8 hW8 => ?_)
              have n8 : New w7 W8 := by rw [hW8]; exact (Mod.refl _ _).alloc _
              have T8 : Hid (Blk W8 w7.heap.size #[.int .i64 fam, .string ip, .int .i64 PO] 40) := hid (by rw [hW8]; exact Blk.new w7 _ _)
              have M8 := hid (M7.out.step n8)
              have S8 := hid (S7.out.new n8)
              clear hW8 n8 x4 x5 x6 xl
              refine (HRR.out _ M8.out.rc M8.out.new).mono ?_
              rintro e w9 ⟨ah9, ch9, a9, cap9, rfl, s9, rc9, m9⟩
              have hm9 : Mod (RcT R aa ah) W8 w9 := m9.mono (fun _ _ q => by rcases q with q | q; exact .inl q; exact .inr (.inr q))
              have hlow : ∀ k, RcT R aa ah k → k < w6.heap.size := fun k q => (M6.out.rc.over k q).2
              have T9 := hid (hm9.blk T8.out (fun q => by have := hlow _ q; omega))
              have S9 := hid (S8.out.far hm9 (fun x hx q => by have h1 := hlow _ q; have h2 := HB7.out x hx; omega))
              have S9b := hid s9
              obtain ⟨aa9, ah9, ca9, ch9, mm9⟩ := M8.out.r ⟨aa, ah9, ca, ch9, rc9, hm9⟩
              have M9 := hid mm9
              clear s9 rc9 m9 hm9 hlow mm9
              go_wp2_with fail
              refine name_worldC (p := fun W => Calls _ _ _ W _) (fun WA hWA => ?_)
              have nA : New w9 WA := by rw [hWA]; exact (Mod.refl _ _).alloc _
              have TA : Hid (Blk WA w9.heap.size #[.int .i64 fam, .string ip, .int .i64 PO] 40) := hid (by rw [hWA]; exact Blk.new w9 _ _)
              have TB := hid (New.blk nA T9.out)
              have MA := hid (M9.out.step nA)
              have HST := hid (sameTexts_eq a7 a9 cap7 cap9 NS WA (S9.out.new nA) (S9b.out.new nA))
              clear hWA nA
              refine HST.out.mono ?_
              rintro e w11 ⟨rfl, n11⟩
              have MB2 := hid (MA.out.step n11)
              have p0 := (New.blk n11 TA.out).cellv 0 rfl; have p1 := (New.blk n11 TA.out).cellv 1 rfl; have p2 := (New.blk n11 TA.out).cellv 2 rfl; have pl := (New.blk n11 TA.out).lt
              have q0 := (New.blk n11 TB.out).cellv 0 rfl; have q1 := (New.blk n11 TB.out).cellv 1 rfl; have q2 := (New.blk n11 TB.out).cellv 2 rfl; have ql := (New.blk n11 TB.out).lt
              clear n11
              go_wp2_with fail
              go_meet
              exact ⟨by simp, MB2.out.pl HB2.out (by show (r.heard ++ [_]).length ≤ _; rw [List.length_append, List.length_singleton]; omega), MB2.out.xb⟩
            · have grh : r.hearE (NOW + later) ⟨fam, ip, aport⟩ text ≠ 0 := by rw [← hE]; exact gh
              have HCC := hid (hear_no B M H c (NOW + later) ⟨fam, ip, aport⟩ text w6 M6.out.cr (HV.out _ M6.out.new) HOK5.out.ip hSz B5.out.ok.now.1 gh)
              have HRR := hid (fun W (q : RcAt W R aa ah ca ch r) (n : New w W) => rHear_no R aa ah ca ch r (NOW + later) ⟨fam, ip, aport⟩ text W q B5.out.rok (HVR.out W n) HOK5.out.ip hSz grh)
              rw [← hE] at HRR
              obtain ⟨E, hEE⟩ : ∃ E, E = c.hearE (NOW + later) ⟨fam, ip, aport⟩ text := ⟨_, rfl⟩
              rw [← hEE] at HCC HRR
              simp only [adr0] at HCC HRR
              have x4 := M6.out.xb.cellv 4 rfl; have x5 := M6.out.xb.cellv 5 rfl; have x6 := M6.out.xb.cellv 6 rfl; have xl := M6.out.xb.lt
              clear hE gh grh hEE
              go_wp2_with fail
              refine HCC.out.mono ?_
              rintro e w7 ⟨rfl, n7⟩
              have M7 := hid (M6.out.step n7)
              have hz67 := n7.size
              clear n7 x4 x5 x6 xl
              have x4 := M7.out.xb.cellv 4 rfl; have x5 := M7.out.xb.cellv 5 rfl; have x6 := M7.out.xb.cellv 6 rfl; have xl := M7.out.xb.lt
              go_wp2_with fail
              refine name_worldC (p := fun W => Calls _ _ _ W _) (fun W8 hW8 => ?_)
              have n8 : New w7 W8 := by rw [hW8]; exact (Mod.refl _ _).alloc _
              have T8 : Hid (Blk W8 w7.heap.size #[.int .i64 0, .string ⟨#[]⟩, .int .i64 0] 40) := hid (by rw [hW8]; exact Blk.new w7 _ _)
              have M8 := hid (M7.out.step n8)
              clear hW8 n8 x4 x5 x6 xl
              refine (HRR.out _ M8.out.rc M8.out.new).mono ?_
              rintro e w9 ⟨rfl, rc9, m9⟩
              have T9 := hid (m9.blk T8.out (fun q => by have := M6.out.rc.row.lt; omega))
              obtain ⟨aa9, ah9, ca9, ch9, mm9⟩ := M8.out.r ⟨aa, ah, ca, ch, rc9, m9.mono (fun _ _ q => .inl q)⟩
              have M9 := hid mm9
              clear rc9 m9 mm9
              go_wp2_with fail
              refine name_worldC (p := fun W => Calls _ _ _ W _) (fun WA hWA => ?_)
              have nA : New w9 WA := by rw [hWA]; exact (Mod.refl _ _).alloc _
              have TA : Hid (Blk WA w9.heap.size #[.int .i64 0, .string ⟨#[]⟩, .int .i64 0] 40) := hid (by rw [hWA]; exact Blk.new w9 _ _)
              have TB := hid (New.blk nA T9.out)
              have MA := hid (M9.out.step nA)
              have hno : StrsAt WA none 0 [] := ⟨by simp, by simp [maxLen], by simp, .inl rfl⟩
              have HST : Hid (Calls Tryz.prog 15 #[.slice none 0 0, .slice none 0 0] WA fun e w' => e = .returned (.bool true) ∧ New WA w') := hid (sameTexts_eq none none 0 0 [] WA hno hno)
              clear hWA nA hno
              refine HST.out.mono ?_
              rintro e w11 ⟨rfl, n11⟩
              have MB2 := hid (MA.out.step n11)
              have p0 := (New.blk n11 TA.out).cellv 0 rfl; have p1 := (New.blk n11 TA.out).cellv 1 rfl; have p2 := (New.blk n11 TA.out).cellv 2 rfl; have pl := (New.blk n11 TA.out).lt
              have q0 := (New.blk n11 TB.out).cellv 0 rfl; have q1 := (New.blk n11 TB.out).cellv 1 rfl; have q2 := (New.blk n11 TB.out).cellv 2 rfl; have ql := (New.blk n11 TB.out).lt
              clear n11
              go_wp2_with fail
              go_meet
              exact ⟨by simp, MB2.out.pl B5.out (by omega), MB2.out.xb⟩
      by_cases hk8 : kind = 8
      · as_aux_lemma =>
          subst hk8
          clear hk1 hk2 hk3 hk4 hk5 hk6 hk7
          obtain ⟨V, E, c2, r2, hb2, hh2, CC, RR⟩ := both_heard B5.out (NOW + later) ⟨fam, ip, aport⟩ HOK5.out.ip
          have HCC := hid CC; have HRR := hid RR; have HB2 := hid hb2; have HH2 := hid hh2
          clear CC RR hb2 hh2
          have x4 := M5.out.xb.cellv 4 rfl; have x5 := M5.out.xb.cellv 5 rfl; have x6 := M5.out.xb.cellv 6 rfl; have xl := M5.out.xb.lt
          go_wp2_with fail
          refine (HCC.out B M H _ M5.out.cr).mono ?_
          rintro e w6 ⟨rfl, d6⟩
          obtain ⟨H6, m6⟩ := M5.out.c d6
          have M6 := hid m6
          clear d6 m6 x4 x5 x6 xl
          have x4 := M6.out.xb.cellv 4 rfl; have x5 := M6.out.xb.cellv 5 rfl; have x6 := M6.out.xb.cellv 6 rfl; have xl := M6.out.xb.lt
          go_wp2_with fail
          refine (HRR.out R aa ah ca ch _ M6.out.rc).mono ?_
          rintro e w7 ⟨rfl, d7⟩
          obtain ⟨aa7, ah7, ca7, ch7, m7⟩ := M6.out.r d7
          have M7 := hid m7
          clear d7 m7 x4 x5 x6 xl
          go_wp2_with fail
          go_meet
          exact ⟨by simp, M7.out.pl HB2.out (by rw [HH2.out]; omega), M7.out.xb⟩
      by_cases hk9 : kind = 9
      · as_aux_lemma =>
          subst hk9
          clear hk1 hk2 hk3 hk4 hk5 hk6 hk7 hk8
          obtain ⟨V, E, c2, r2, hb2, hh2, CC, RR⟩ := both_when B5.out (NOW + later)
          have HCC := hid CC; have HRR := hid RR; have HB2 := hid hb2; have HH2 := hid hh2
          clear CC RR hb2 hh2
          have x4 := M5.out.xb.cellv 4 rfl; have x5 := M5.out.xb.cellv 5 rfl; have x6 := M5.out.xb.cellv 6 rfl; have xl := M5.out.xb.lt
          go_wp2_with fail
          refine (HCC.out B M H _ M5.out.cr).mono ?_
          rintro e w6 ⟨rfl, d6⟩
          obtain ⟨H6, m6⟩ := M5.out.c d6
          have M6 := hid m6
          clear d6 m6 x4 x5 x6 xl
          have x4 := M6.out.xb.cellv 4 rfl; have x5 := M6.out.xb.cellv 5 rfl; have x6 := M6.out.xb.cellv 6 rfl; have xl := M6.out.xb.lt
          go_wp2_with fail
          refine (HRR.out R aa ah ca ch _ M6.out.rc).mono ?_
          rintro e w7 ⟨rfl, d7⟩
          obtain ⟨aa7, ah7, ca7, ch7, m7⟩ := M6.out.r d7
          have M7 := hid m7
          clear d7 m7 x4 x5 x6 xl
          go_wp2_with fail
          go_meet
          exact ⟨by simp, M7.out.pl HB2.out (by rw [HH2.out]; omega), M7.out.xb⟩
      · as_aux_lemma =>
          by_cases hat : c.atE (NOW + later) = 0
          · have har := B5.out.alk.atE (NOW + later)
            rw [hat] at har
            have HCC := hid (cTell_any B M H c (NOW + later) W5 M5.out.cr B5.out.ok hat (fun W n => (HV.out W (M5.out.new.trans' n (fun z hz q => by have h1 := HZ.out; rcases q with q | q <;> omega))).tab))
            have HAT := hid hat; have HAR := hid har.symm
            clear hat har
            go_wp2_with fail
            refine HCC.out.mono ?_
            intro e w6 hp6
            have HP6 := hid hp6
            obtain ⟨S1, E1, rfl⟩ : ∃ S1 E1, e = .returned (.tuple #[.string S1, .int .i64 E1]) := by
              obtain ⟨U, T, rest, N, -, -, -, -, -, -, -, h | h⟩ := hp6
              · exact ⟨_, _, h.2.1⟩
              · exact ⟨_, _, h.2.2.1⟩
            have hmC : Mod (CrT B M H) W5 w6 := by
              obtain ⟨U, T, rest, N, -, -, -, -, -, -, -, h | h⟩ := hp6
              · exact New.mod h.2.2
              · exact h.2.2.2.2.mono (fun _ _ q => by rcases q with q | q; exact .inl q; exact .inr (.inl q))
            have R6 := hid (M5.out.rc.mod hmC (fun k hk => apart_cr M5.out.cr M5.out.rc k hk))
            have NW6 : Hid (New w w6) := hid (M5.out.new.trans' hmC (fun z hz q => by have h1 := HZ.out; have h2 := M5.out.zH; rcases q with q | q | q <;> omega))
            have HRR := hid (rTell_any R aa ah ca ch r (NOW + later) w6 R6.out B5.out.rok HAR.out (fun W n => (HV.out W (NW6.out.trans' n (fun z hz q => by
              have h1 := HZR.out
              rcases q with q | ⟨y, hy, q⟩
              · omega
              · have := (M5.out.rc.over _ (.inr (.inl ⟨y, hy, q⟩))).1; omega))).tab))
            clear hp6 hmC
            go_wp2_with fail
            refine HRR.out.mono ?_
            intro e w7 hp7
            obtain ⟨S, E, c2, r2, q1, rfl, hb2, hh2, d6, d7⟩ := tell_same B5.out HAT.out M5.out.cr HP6.out hp7
            obtain ⟨rfl, rfl⟩ : S1 = S ∧ E1 = E := by
              injection q1 with q1
              injection q1 with q1
              simp at q1
              exact q1
            obtain ⟨H6, m6⟩ := M5.out.c d6
            obtain ⟨aa7, ah7, ca7, ch7, m7⟩ := m6.r d7
            have M7 := hid m7; have HB2 := hid hb2; have HH2 := hid hh2
            clear hp7 q1 hb2 hh2 d6 d7 m6 m7
            go_wp2_with fail
            go_meet
            exact ⟨by simp, M7.out.pl HB2.out (by rw [HH2.out]; omega), M7.out.xb⟩
          · have har := B5.out.alk.atE (NOW + later)
            have HCC := hid (cTell_late B M H c (NOW + later) W5 M5.out.cr hat)
            have HRR := hid (fun W (n : New W5 W) => rTell_late R aa ah ca ch r (NOW + later) W (M5.out.rc.new n) (by rw [← har]; exact hat))
            rw [← har] at HRR
            obtain ⟨E, hE⟩ : ∃ E, E = c.atE (NOW + later) := ⟨_, rfl⟩
            rw [← hE] at HCC HRR
            clear hat har hE
            go_wp2_with fail
            refine HCC.out.mono ?_
            rintro e w6 ⟨rfl, n6⟩
            have N6 := hid n6
            clear n6
            go_wp2_with fail
            refine (HRR.out _ N6.out).mono ?_
            rintro e w7 ⟨rfl, rfl⟩
            have M7 := hid (M5.out.step N6.out)
            go_wp2_with fail
            go_meet
            exact ⟨by simp, M7.out.pl B5.out (by omega), M7.out.xb⟩
    case rest =>
     as_aux_lemma =>
      obtain ⟨rfl, hp, hxb⟩ := hcut
      obtain ⟨⟨c, r, H, aa, ah, ca, ch, hcr, hrc, hbo, hln, hHz⟩, hn⟩ := hp
      have HCR := hid hcr; have HRC := hid hrc; have HBO := hid hbo; have HN := hid hn; have HXB := hid hxb
      have hEq := hbo.alk.lastE name
      have HLC := hid (fun W (n : New wc W) => cLast_any B M H c name W (HCR.out.new n) (by unfold maxLen; omega))
      have HLR := hid (fun W (n : New wc W) => rLast_any R aa ah ca ch r name W (HRC.out.new n) HBO.out.rok.few (by unfold maxLen; omega))
      rw [← hEq.1, ← hEq.2] at HLR
      obtain ⟨V, hV⟩ : ∃ V, V = c.lastR name := ⟨_, rfl⟩
      obtain ⟨E, hE⟩ : ∃ E, E = c.lastE name := ⟨_, rfl⟩
      rw [← hV, ← hE] at HLC HLR
      have HNC := hid (fun W (n : New wc W) => cNames_any B M H c W (HCR.out.new n) HBO.out.ok)
      have HNR := hid (fun W (n : New wc W) => rNames_any R aa ah ca ch r W (HRC.out.new n) HBO.out.rok.few HBO.out.rok.size)
      rw [hbo.alk.sorted] at HNC
      obtain ⟨NS, hNS⟩ : ∃ NS, NS = r.all.map (·.1) := ⟨_, rfl⟩
      rw [← hNS] at HNC HNR
      have HKC := hid (fun W (n : New wc W) => cCookie_any B M H c W (HCR.out.new n))
      have HKR := hid (fun W (n : New wc W) => rCookie_any R aa ah ca ch r W (HRC.out.new n))
      rw [hbo.alk.cook] at HKR
      obtain ⟨CK, hCK⟩ : ∃ CK, CK = c.cookie := ⟨_, rfl⟩
      rw [← hCK] at HKC HKR
      have x0 := hxb.cellv 0 rfl; have x1 := hxb.cellv 1 rfl; have x2 := hxb.cellv 2 rfl; have xl := hxb.lt
      clear hcr hrc hbo hn hxb hEq hV hE hNS hCK
      go_wp2_with fail
      refine (HLC.out _ (Mod.refl _ _)).mono ?_
      rintro e w6 ⟨rfl, n6⟩
      have N6 := hid n6
      have x1 := New.cellv n6 x1; have x2 := New.cellv n6 x2
      have xl := Nat.lt_of_lt_of_le xl n6.size
      clear n6
      go_wp2_with fail
      refine (HLR.out _ N6.out).mono ?_
      rintro e w7 ⟨rfl, n7⟩
      have N7 := hid (N6.out.trans n7)
      have x1 := New.cellv n7 x1
      have xl := Nat.lt_of_lt_of_le xl n7.size
      clear n7
      go_wp2_with fail
      refine (HNC.out _ N7.out).mono ?_
      rintro e w8 ⟨a8, c8, rfl, s8, n8⟩
      have N8 := hid (N7.out.trans n8)
      have S8 := hid s8
      have x1 := New.cellv n8 x1
      have xl := Nat.lt_of_lt_of_le xl n8.size
      clear s8 n8
      go_wp2_with fail
      refine (HNR.out _ N8.out).mono ?_
      rintro e w9 ⟨v9, rfl, o9, n9⟩
      obtain ⟨a9, c9, rfl, s9, -⟩ := o9.strs
      have N9 := hid (N8.out.trans n9)
      have HST := hid (sameTexts_eq a8 a9 c8 c9 NS w9 (S8.out.new n9) s9)
      have x1 := New.cellv n9 x1
      have xl := Nat.lt_of_lt_of_le xl n9.size
      clear o9 s9 n9
      go_wp2_with fail
      refine HST.out.mono ?_
      rintro e w10 ⟨rfl, n10⟩
      have N10 := hid (N9.out.trans n10)
      have x1 := New.cellv n10 x1
      have xl := Nat.lt_of_lt_of_le xl n10.size
      clear n10
      go_wp2_with fail
      refine (HKC.out _ N10.out).mono ?_
      rintro e w11 ⟨rfl, rfl⟩
      go_wp2_with fail
      refine (HKR.out _ N10.out).mono ?_
      rintro e w12 ⟨rfl, rfl⟩
      have PE : Hid (PlIn w B M R (k + 1) w12) := hid ⟨⟨c, r, H, aa, ah, ca, ch, HCR.out.new N10.out, HRC.out.new N10.out, HBO.out, hln, hHz⟩, Mod.trans HN.out N10.out⟩
      go_wp2_with fail
      all_goals exact ⟨⟨_, k + 1, rfl, by simp, by omega, by omega, PE.out⟩, by simp [intOf]; omega⟩
end Go.Proofs.YtnflhjagmngimaaGreatDoor.localPlays
