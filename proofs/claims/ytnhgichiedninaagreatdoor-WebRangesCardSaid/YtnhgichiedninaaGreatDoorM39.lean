/-
  Several texts in one, in their build order. The walk of Fetches (package web). Conditions: the list lies as told; the library's table is laid.
-/
import Derived.Test.YtnhgichiedninaaGreatDoorM30
import Derived.Test.YtnhgichiedninaaGreatDoorM31
import Derived.Test.YtnhgichiedninaaGreatDoorM38
import Derived.Deep.AppendLies
namespace Go.Proofs.YtnhgichiedninaaGreatDoor
set_option linter.unusedSimpArgs false
set_option linter.unusedVariables false
open Go.RowKit

/-- A fetch. -/
structure FetV where
  web : Int
  file : Int
  frm : Int
  cnt : Int
  path : ByteArray
def fetCells (f : FetV) : List Value := [.int .i64 f.web, .int .i64 f.file, .int .i64 f.frm, .int .i64 f.cnt, .string f.path]
def fetRow (L : List FetV) : List Value := L.flatMap fetCells
theorem fetRow_app (S T : List FetV) : fetRow (S ++ T) = fetRow S ++ fetRow T := by unfold fetRow; rw [List.flatMap_append]
theorem fetRow_one (f : FetV) : fetRow [f] = fetCells f := by unfold fetRow; simp
def OwnFt (w : World) (base : Nat) (v : Value) (L : List FetV) : Prop := w.ownsRow base 62 5 v L.length (fetRow L)
theorem OwnFt.new {w w' : World} {base : Nat} {v : Value} {L : List FetV} (h : OwnFt w base v L) (hn : New w w') : OwnFt w' base v L := owns_mod h hn (fun _ _ q => q)
theorem OwnFt.base {w : World} {base base' : Nat} {v : Value} {L : List FetV} (h : OwnFt w base v L) (hb : base' ≤ base) : OwnFt w base' v L := by
  refine ⟨h.1, ?_⟩
  rcases h.2 with h1 | ⟨g, cap, cur, e, hbg, rest⟩
  · exact .inl h1
  · exact .inr ⟨g, cap, cur, e, Nat.le_trans hb hbg, rest⟩
theorem info_fetch : (Tryz.prog.info? 62).map (fun i => (i.zero, i.size, i.bytes)) = some (some (.agg #[.int .i64 0, .int .i64 0, .int .i64 0, .int .i64 0, .string ⟨#[]⟩]), 5, 48) := by kernel_rfl
def fet1 (wb : Int) (url name : ByteArray) (l : List FileV) (s : SpanV) : FetV := ⟨wb, s.file, s.frm, s.cnt, ⟨(urlOf url name l s.file.toNat).toArray⟩⟩
def fetOf (wb : Int) (url name : ByteArray) (l : List FileV) (S : List SpanV) : List FetV := S.map (fet1 wb url name l)
def fetErr (url name : ByteArray) (l : List FileV) (piece : Int) (new : Bool) (fr cn : Int) : Int := if askE url name l ≠ 0 then askE url name l else runErr l piece new fr cn
def fetRes (wb : Int) (url name : ByteArray) (l : List FileV) (piece : Int) (new : Bool) (fr cn : Int) : List FetV :=
  if fetErr url name l piece new fr cn = 0 then fetOf wb url name l (jnOf l (runSp l piece new fr cn.toNat)) else []
theorem ret_fet {v : Value} {E k : Int} (h : E = k) : Ending.returned (.tuple #[v, .int .i64 k]) = .returned (.tuple #[v, .int .i64 E]) := by rw [h]
theorem fet_next (wb : Int) (url name : ByteArray) (l : List FileV) {S : List SpanV} {k : Nat} (h : k < S.length) : fetOf wb url name l (S.take (k + 1)) = fetOf wb url name l (S.take k) ++ [fet1 wb url name l S[k]] := by
  unfold fetOf
  rw [List.take_succ_eq_append_getElem h, List.map_append]
  rfl
theorem OwnFt.next {w : World} {base : Nat} {v : Value} {L : List FetV} {x : FetV} {n : Nat} (hn : L.length = n) (h : w.ownsRow base 62 5 v (n + 1) (fetRow L ++ fetCells x)) : OwnFt w base v (L ++ [x]) := by
  unfold OwnFt
  rw [fetRow_app, fetRow_one, List.length_append, hn]
  exact h
/-- The parts' own facts. -/
theorem parts_facts {l : List FileV} {piece : Int} {new : Bool} {fr : Int} {n : Nat} (hv : wayErr l piece = 0) (f0 : 0 ≤ fr) (f1 : fr + n ≤ piecesOf l piece new) :
    (∀ s ∈ jnOf l (runSp l piece new fr n), PartOf l s) ∧ (jnOf l (runSp l piece new fr n)).length ≤ 2800000 := by
  obtain ⟨hvv, hpp⟩ := way_ok hv
  obtain ⟨v1, v2, v3, v4⟩ := valid_facts hvv
  obtain ⟨p1, p2⟩ := piece_range hpp
  obtain ⟨p3, p4⟩ := pieces_le (new := new) hv
  have hin := runs_within new (show 0 < piece by omega) v3 f0 n
  obtain ⟨h1, -, h2⟩ := jn_parts hin
  refine ⟨h1, ?_⟩
  have h3 := run_few l piece new fr n
  have h4 : n * l.length ≤ 70000 * 40 := Nat.mul_le_mul (by omega) (by omega)
  omega
set_option maxRecDepth 100000 in
set_option maxHeartbeats 4000000 in
theorem wFetches_any (url name : ByteArray) (a : Option Addr) (c : Nat) (l : List FileV) (piece : Int) (new : Bool) (fr cn : Int) (w : World) (h : FilesAt w a c l) (ht : Tab w) (hu : url.size ≤ 300) (hn : name.size ≤ 150) (h0 : -9223372036854775808 ≤ piece ∧ piece ≤ 9223372036854775807) (f0 : -9223372036854775808 ≤ fr ∧ fr ≤ 9223372036854775807) (c0 : -9223372036854775808 ≤ cn ∧ cn ≤ 9223372036854775807) :
    Calls Tryz.prog 23 #[.int .i64 2, .string url, .string name, .slice a l.length c, .int .i64 piece, .bool new, .agg #[.int .i64 fr, .int .i64 cn]] w fun e w' => ∃ v, e = .returned (.tuple #[v, .int .i64 (fetErr url name l piece new fr cn)]) ∧ OwnFt w' w.heap.size v (fetRes 2 url name l piece new fr cn) ∧ New w w' := by
  obtain ⟨E, hE⟩ : ∃ E, E = fetErr url name l piece new fr cn := ⟨_, rfl⟩
  obtain ⟨X, hX⟩ : ∃ X, X = fetRes 2 url name l piece new fr cn := ⟨_, rfl⟩
  rw [← hE, ← hX]
  unfold fetRes at hX
  rw [← hE] at hX
  unfold fetErr at hE
  have HAS := hid (fun W (n : New w W) => asked_any url name a c l W (by omega) (by omega) (h.new n) (ht.new n))
  have HRN := hid (fun W (n : New w W) => run_any a c l piece new fr cn W (h.new n) (ht.new n) h0 f0 c0)
  have hao : askE url name l = 0 → url.size ≤ 200 ∧ name.size ≤ 100 ∧ validOf l = true := fun q => by
    by_cases hq : askedB url name l = true
    · obtain ⟨-, q1, -, q2, q3⟩ := asked_facts hq; exact ⟨q1, q2, q3⟩
    · unfold askE at q
      rw [if_neg hq] at q
      cases q
  obtain ⟨A, hA⟩ : ∃ A, A = askE url name l := ⟨_, rfl⟩
  rw [← hA] at HAS hE hao
  have hro := fun (q : runErr l piece new fr cn = 0) => runErr_ok q
  obtain ⟨R, hR⟩ : ∃ R, R = runErr l piece new fr cn := ⟨_, rfl⟩
  rw [← hR] at HRN hE hro
  clear hA hR
  by_cases hz : A = 0
  · have hzI : (A != 0) = false := by rw [bne_eq_false_iff_eq]; exact hz
    rw [if_neg (fun q => q hz)] at hE
    obtain ⟨hu2, hn2, hvo⟩ := hao hz
    subst hz
    subst hE
    by_cases hr : E = 0
    · have hrI : (E != 0) = false := by rw [bne_eq_false_iff_eq]; exact hr
      obtain ⟨r0, r1, r2, r3⟩ := hro hr
      obtain ⟨n, rfl⟩ := Int.eq_ofNat_of_zero_le (show 0 ≤ cn by omega)
      rw [if_pos hr, Int.toNat_natCast] at hX
      obtain ⟨hpf, hpl⟩ := parts_facts r0 r1 r3
      have HJN := hid (fun W (q : New w W) => joined_any a c l piece new fr n W (h.new q) (ht.new q) r0 r1 r3)
      have HWP := hid (fun (k : Nat) W (hk : k < l.length) (q : New w W) => wpath_any url name a c l k W hu2 hn2 (h.new q) hvo hk)
      obtain ⟨S, hS⟩ : ∃ S, S = jnOf l (runSp l piece new fr n) := ⟨_, rfl⟩
      rw [← hS] at hX hpf hpl HJN
      have HX := hid hX; have HPF := hid hpf
      subst hr
      obtain ⟨i0, hi, hz0, hz1, hz2⟩ := info_parts info_fetch
      clear h ht hX hS hpf hao hro hu hn h0 f0 c0 hu2 hn2 hvo r0 r1 r2 r3
      go_enter Tryz.func23, Tryz.ntmps23
      go_wp2_with fail
      refine (HAS.out _ ((Mod.refl _ _).alloc _)).mono ?_
      rintro e w1 ⟨rfl, n1⟩
      have N1 : Hid (New w w1) := hid (((Mod.refl _ w).alloc (.cells #[.int .i64 fr, .int .i64 n] 34) : New w _).trans n1)
      have B1 : Hid (Blk w1 w.heap.size #[.int .i64 fr, .int .i64 n] 34) := hid (New.blk n1 (Blk.new _ _ _))
      clear n1
      have d0 := B1.out.cellv 0 rfl; have d1 := B1.out.cellv 1 rfl; have dl := B1.out.lt
      go_wp2_with fail
      refine (HRN.out _ N1.out).mono ?_
      rintro e w2 ⟨rfl, n2⟩
      have N2 := hid (N1.out.trans n2)
      have B2 := hid (New.blk n2 B1.out)
      clear n2 d0 d1 dl N1 B1
      have d0 := B2.out.cellv 0 rfl; have d1 := B2.out.cellv 1 rfl; have dl := B2.out.lt
      go_wp2_with fail
      refine (HJN.out _ N2.out).mono ?_
      rintro e w3 ⟨v, rfl, o3, n3⟩
      have N3 := hid (N2.out.trans n3)
      obtain ⟨sa, sc, rfl, hsa⟩ := OwnS.spans o3
      have HS3 := hid hsa
      clear o3 n3 d0 d1 dl B2 N2 hsa
      go_wp2
      have HO0 : Hid (OwnFt w3 w3.heap.size (.slice none 0 0) (fetOf 2 url name l (S.take 0))) := hid (World.ownsRow_nil _ _ _ _)
      go_loopw [18, 48] (fun v i wr => ∃ (k : Nat) (o : Value), o = v ∧ i = .int .i64 k ∧ k ≤ S.length ∧ OwnFt wr w3.heap.size o (fetOf 2 url name l (S.take k)) ∧ New w3 wr) (fun _ i _ => S.length - (intOf i).toNat)
      case atStart => exact ⟨0, _, rfl, rfl, by omega, HO0.out, Mod.refl _ _⟩
      case round =>
        clear HO0
        obtain ⟨k, o, rfl, rfl, hk, ho, hn⟩ := hrel
        have HO := hid ho; have HN := hid hn
        clear ho hn
        by_cases hlt : k < S.length
        · have hs := HS3.out.new HN.out
          have hs1 := hs.room; have hs2 := hs.cap
          unfold maxLen at hs2
          obtain ⟨b1, o1, rfl, hb1, hc1⟩ := hs.get (by omega)
          obtain ⟨r0, r1, r2⟩ := hc1 k hlt
          obtain ⟨⟨kf, f, e1, e2, -, -, -⟩, -⟩ := HPF.out S[k] (List.getElem_mem hlt)
          have hkl : kf < l.length := (List.getElem?_eq_some_iff.1 e2).1
          have HNX := hid (fet_next 2 url name l hlt)
          obtain ⟨x, hx⟩ : ∃ x, x = S[k] := ⟨_, rfl⟩
          rw [← hx] at r0 r1 r2 e1 HNX
          obtain ⟨xf, xr, xc⟩ := x
          simp only at r0 r1 r2 e1
          subst e1
          have HFT : Hid (fet1 2 url name l ⟨kf, xr, xc⟩ = ⟨2, kf, xr, xc, ⟨(urlOf url name l kf).toArray⟩⟩) := hid rfl
          rw [HFT.out] at HNX
          obtain ⟨U, hU⟩ : ∃ U : ByteArray, U = ⟨(urlOf url name l kf).toArray⟩ := ⟨_, rfl⟩
          have HWQ := hid (fun W (q : New w W) => HWP.out kf W hkl q)
          rw [← hU] at HNX HWQ
          have hlen : (fetOf 2 url name l (S.take k)).length = k := by unfold fetOf; rw [List.length_map, List.length_take]; omega
          clear hs hc1 hx HFT hU e2
          have hwb := HN.out.size
          have K0 : Hid (New w3 (wr.alloc (.cells #[.int .i64 kf, .int .i64 xr, .int .i64 xc] 113)) ∧ Blk (wr.alloc (.cells #[.int .i64 kf, .int .i64 xr, .int .i64 xc] 113)) wr.heap.size #[.int .i64 kf, .int .i64 xr, .int .i64 xc] 113) := hid ⟨HN.out.alloc _, Blk.new _ _ _⟩
          have h63 : (fetOf 2 url name l (S.take k)).length + 1 ≤ maxLen := by rw [hlen]; unfold maxLen; omega
          have hby : ((fetOf 2 url name l (S.take k)).length + 1) * 48 ≤ 140737488355328 := by rw [hlen]; omega
          go_wp2
          go_region_held3 (fun w' => w'.cell? ⟨wr.heap.size, 0, none⟩ = some (.int .i64 kf) ∧ w'.cell? ⟨wr.heap.size, 1, none⟩ = some (.int .i64 xr) ∧ w'.cell? ⟨wr.heap.size, 2, none⟩ = some (.int .i64 xc)) ((first | exact ⟨y0, y1, y2⟩ | exact ⟨z0, z1, z2⟩ | exact ⟨x0, x1, x2⟩ | go_keep)) ((first | (go_at_call 60; (with_reducible refine (HWQ.out _ ?_).mono ?_); (focus (exact (N3.out.trans K0.out.1.drew))); rintro e w4 ⟨rfl, n4⟩; have N4 : Hid (New w3 w4) := hid (K0.out.1.drew.trans n4); have M4 : Hid (New wr w4) := hid ((((Mod.refl _ _).alloc (.cells #[.int .i64 kf, .int .i64 xr, .int .i64 xc] 113)).drew).trans n4); have B4 := hid (New.blk n4 K0.out.2.drew); have z4 := n4.size; have z0 := B4.out.cellv 0 rfl; have z1 := B4.out.cellv 1 rfl; have z2 := B4.out.cellv 2 rfl; clear n4) | (refine step_append_lies _ (by rfl) _ _ _ (by rfl) w3.heap.size 62 i0 _ 5 48 Tryz.underlying55 hi hz0 hz1 hz2 (by rfl) (by omega) o _ _ (by rfl) (HO.out.new (M4.out.alloc _)) ⟨w4.heap.size, 0, none⟩ 1 1 (fetCells ⟨2, kf, xr, xc, U⟩) (by rfl) (by rfl) (World.news_of_block (heap_alloc_new _ _)) (by intro u hu; simp [fetCells] at hu; rcases hu with rfl | rfl | rfl | rfl | rfl <;> rfl) (by omega) h63 hby (by simp; have := N4.out.size; omega) _ (by rfl) ?_; intro g cap w5 hown hgrow hat hglt; have B5 := (B4.out.alloc _).of_heap (hgrow.block wr.heap.size (by have := B4.out.lt; simp; omega) (fun q => by have := (World.ownsRow.lt HO.out wr.heap.size q.symm).2; omega)); have x0 := B5.cellv 0 rfl; have x1 := B5.cellv 1 rfl; have x2 := B5.cellv 2 rfl) | fail))
          all_goals go_wp2
          all_goals exact ⟨⟨k + 1, _, rfl, by simp, by omega, by rw [HNX.out]; rw [hlen] at hown; exact OwnFt.next hlen hown, New.grown (N4.out.alloc _) hgrow (fun j hj => (World.ownsRow.lt HO.out j hj).1)⟩, by simp [intOf]; omega⟩
        · have htk : S.take k = S := List.take_of_length_le (by omega)
          rw [htk] at HO
          clear htk
          go_wp2
          go_ret2
          exact ⟨_, rfl, by rw [HX.out]; exact HO.out.base (by have := N3.out.size; omega), N3.out.trans HN.out⟩
    · have hrI : (E != 0) = true := by rw [bne_iff_ne]; exact hr
      rw [if_neg hr] at hX
      subst hX
      clear h ht hao hro hu hn h0 f0 c0 hu2 hn2 hvo hr
      go_enter Tryz.func23, Tryz.ntmps23
      go_wp2_with fail
      refine (HAS.out _ ((Mod.refl _ _).alloc _)).mono ?_
      rintro e w1 ⟨rfl, n1⟩
      have N1 : Hid (New w w1) := hid (((Mod.refl _ w).alloc (.cells #[.int .i64 fr, .int .i64 cn] 34) : New w _).trans n1)
      have B1 : Hid (Blk w1 w.heap.size #[.int .i64 fr, .int .i64 cn] 34) := hid (New.blk n1 (Blk.new _ _ _))
      clear n1
      have d0 := B1.out.cellv 0 rfl; have d1 := B1.out.cellv 1 rfl; have dl := B1.out.lt
      go_wp2_with fail
      refine (HRN.out _ N1.out).mono ?_
      rintro e w2 ⟨rfl, n2⟩
      have N2 := hid (N1.out.trans n2)
      clear n2 d0 d1 dl B1
      go_wp2
      go_ret2
      exact ⟨_, rfl, World.ownsRow_nil _ _ _ _, N2.out⟩
  · have hzI : (A != 0) = true := by rw [bne_iff_ne]; exact hz
    rw [if_pos hz] at hE
    subst hE
    rw [if_neg hz] at hX
    subst hX
    clear h ht hao hro hu hn h0 f0 c0 hz
    go_enter Tryz.func23, Tryz.ntmps23
    go_wp2_with fail
    refine (HAS.out _ ((Mod.refl _ _).alloc _)).mono ?_
    rintro e w1 ⟨rfl, n1⟩
    have N1 : Hid (New w w1) := hid (((Mod.refl _ w).alloc (.cells #[.int .i64 fr, .int .i64 cn] 34) : New w _).trans n1)
    clear n1
    go_wp2
    go_ret2
    exact ⟨_, rfl, World.ownsRow_nil _ _ _ _, N1.out⟩
end Go.Proofs.YtnhgichiedninaaGreatDoor
