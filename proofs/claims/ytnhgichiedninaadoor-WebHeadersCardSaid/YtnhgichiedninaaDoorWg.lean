/-
  The walk of web.ParseHeader. Conditions: the text is small; the library's variables are as laid.
-/
import Derived.Test.YtnhgichiedninaaDoorWh
import Derived.Test.YtnhgichiedninaaDoorShelfW
import Derived.Test.YtnhgichiedninaaDoorTxN
import Derived.Lib.SmallJoins
namespace Go.Proofs.YtnhgichiedninaaDoor
set_option linter.unusedSimpArgs false
set_option linter.unusedVariables false
open Go.RowKit Go.Shelf

theorem var_newH {w w' : World} {name : String} {cs : Array Value} (h : w.var? Tryd.prog name = some cs) (hn : New w w') : w'.var? Tryd.prog name = some cs := by
  unfold World.var? at *
  cases hg : Tryd.prog.globalNamed name with
  | none => rw [hg] at h; simp at h
  | some g =>
    rw [hg] at h
    simp only [Option.bind_some] at h ⊢
    have hlt : g < w.heap.size := by
      rcases Nat.lt_or_ge g w.heap.size with h' | h'
      · exact h'
      · simp [Array.getElem?_eq_none h'] at h
    rw [hn.block g hlt (fun x => x)]
    exact h
/-- The library's variables. -/
structure VarsH (w : World) : Prop where
  tab : Tab w
  syn : ∃ tp p, w.var? Tryd.prog "strconv.ErrSyntax" = some #[.iface tp p]
  rng : ∃ tp p, w.var? Tryd.prog "strconv.ErrRange" = some #[.iface tp p]
  max : ∃ m, w.cell? ⟨0, 0, none⟩ = some (.int .i64 m)
theorem VarsH.new {w w' : World} (h : VarsH w) (hn : New w w') : VarsH w' := by
  obtain ⟨h1, ⟨tp, p, h2⟩, ⟨tq, q, h3⟩, ⟨m, h4⟩⟩ := h
  exact ⟨h1.new hn, ⟨tp, p, var_newH h2 hn⟩, ⟨tq, q, var_newH h3 hn⟩, ⟨m, hn.cellv h4⟩⟩
theorem atoi_in {l : List UInt8} {v : Int} (h : Lib.atoiAll l = .ok v) : -9223372036854775808 ≤ v ∧ v ≤ 9223372036854775807 := by
  cases l with
  | nil => simp [Lib.atoiAll] at h
  | cons c r =>
    simp only [Lib.atoiAll] at h
    split at h
    · cases h
    · cases h
    · next u hu =>
      split at h
      · cases h
      · split at h
        · cases h
        · injection h with h
          rw [← h]
          split <;> omega
theorem newH_bytes (w : World) (e : TypeId) (s : ByteArray) : New w (Lib.bytesWorld w e s) := New.of_below (Go.Joins.below_bytesWorld w.heap.size w e s (Nat.le_refl _))
/-- Atoi, of whatever text. -/
def AtoiOut (w w' : World) (t : ByteArray) (e : Ending) : Prop := ∃ v x, e = .returned (.tuple #[.int .i64 v, x]) ∧ (-9223372036854775808 ≤ v ∧ v ≤ 9223372036854775807) ∧ (∀ v', Lib.atoiAll t.data.toList = .ok v' → v = v') ∧ New w w'
theorem atoiH (t : ByteArray) (w : World) (hv : VarsH w) (hs : t.size ≤ 4000000000) :
    Calls Tryd.prog 21 #[.string t] w fun e w' => AtoiOut w w' t e := by
  cases ha : Lib.atoiAll t.data.toList with
  | ok v =>
    refine (Tryd.strconv_Atoi_ok t (by omega) v ha w).mono ?_
    rintro e w' ⟨rfl, hw⟩
    refine ⟨v, _, rfl, atoi_in ha, fun v' h => by rw [ha] at h; exact Lib.NumEnd.ok.inj h, ?_⟩
    rcases hw with rfl | ⟨s, rfl⟩
    · exact Mod.refl _ _
    · exact newH_bytes _ _ _
  | range =>
    obtain ⟨tp, p, hsy⟩ := hv.rng
    refine (Tryd.strconv_Atoi_range_var t (by omega) ha tp p w hsy).mono ?_
    rintro e w' ⟨N, rfl, -, -, hb⟩
    refine ⟨_, _, rfl, ?_, fun v' h => by (rw [ha] at h; cases h), New.of_below hb⟩
    unfold Lib.atoiSat
    split <;> omega
  | _ =>
    obtain ⟨tp, p, hsy⟩ := hv.syn
    refine (Tryd.strconv_Atoi_syntax_var t (by omega) ha tp p w hsy).mono ?_
    rintro e w' ⟨N, rfl, -, -, hb⟩
    exact ⟨0, _, rfl, by omega, fun v' h => by (rw [ha] at h; cases h), New.of_below hb⟩
theorem cutH (s : ByteArray) (w : World) (hv : VarsH w) (hs : s.size ≤ 4000000000) : Calls Tryd.prog 19 #[.string s, .string ⟨#[45]⟩] w fun e w' => e = .returned (.tuple #[.string ⟨(cutB 45 s.data.toList).1.toArray⟩, .string ⟨(cutB 45 s.data.toList).2.1.toArray⟩, .bool (cutB 45 s.data.toList).2.2]) ∧ New w w' := by
  obtain ⟨m, hm⟩ := hv.max
  refine (Tryd.strings_Cut s ⟨#[45]⟩ m w (by omega) hm).mono ?_
  rintro e w' ⟨rfl, n, rfl⟩
  rw [← cut_one]
  exact ⟨rfl, (Mod.refl _ _).drewN n⟩
theorem trimH (s : ByteArray) (w : World) : Calls Tryd.prog 20 #[.string s, .string ⟨#[98, 121, 116, 101, 115, 61]⟩] w fun e w' => e = .returned (.string ⟨(Lib.trimPrefix s.data.toList [98, 121, 116, 101, 115, 61]).toArray⟩) ∧ w = w' :=
  (Tryd.strings_TrimPrefix s ⟨#[98, 121, 116, 101, 115, 61]⟩ w).mono fun e w' ⟨he, hw⟩ => ⟨he, hw.symm⟩
theorem atoi_itoa {n : Int} (h0 : 0 ≤ n) (h1 : n ≤ 200000) : Lib.atoiAll (Lib.itoa n) = .ok n := by
  obtain ⟨u, rfl⟩ := Int.eq_ofNat_of_zero_le h0
  obtain ⟨d1, d2, d3, -, -⟩ := dec_read u
  rw [Lib.itoa_nonneg, atoi_digits d2 (dec_bytes u).2, d1, if_pos (by omega)]
theorem itoa_free {n : Int} (h0 : 0 ≤ n) : (45 : UInt8) ∉ Lib.itoa n := by
  obtain ⟨u, rfl⟩ := Int.eq_ofNat_of_zero_le h0
  obtain ⟨d1, d2, d3, -, -⟩ := dec_read u
  rw [Lib.itoa_nonneg]
  intro q
  have := List.all_eq_true.1 d2 45 q
  simp [isDig] at this
theorem hdr_list (f c : Int) : (hdrB f c).data.toList = [98, 121, 116, 101, 115, 61] ++ (Lib.itoa f ++ 45 :: Lib.itoa (f + c - 1)) := by
  unfold hdrB itoaB
  simp
theorem hdr_cut {f c : Int} (h : hdrOk f c = true) : cutB 45 (Lib.trimPrefix (hdrB f c).data.toList [98, 121, 116, 101, 115, 61]) = (Lib.itoa f, Lib.itoa (f + c - 1), true) := by
  obtain ⟨h0, -⟩ := hdrOk_iff.1 h
  have e : Lib.trimPrefix (hdrB f c).data.toList [98, 121, 116, 101, 115, 61] = Lib.itoa f ++ 45 :: Lib.itoa (f + c - 1) := by
    rw [hdr_list]
    unfold Lib.trimPrefix Lib.hasPrefix
    rw [if_pos (by simp)]
    rfl
  rw [e]
  exact cutB_app _ _ (itoa_free h0)
theorem size_listH (l : List UInt8) : (⟨l.toArray⟩ : ByteArray).size = l.length := by simp [ByteArray.size]
theorem trim_len (t : List UInt8) : (Lib.trimPrefix t [98, 121, 116, 101, 115, 61]).length ≤ t.length := by
  unfold Lib.trimPrefix
  split
  · rw [List.length_drop]; omega
  · omega
theorem cutB_lenH (c : UInt8) : ∀ l : List UInt8, (cutB c l).1.length ≤ l.length ∧ (cutB c l).2.1.length ≤ l.length
  | [] => by simp [cutB]
  | b :: l => by
    obtain ⟨h1, h2⟩ := cutB_lenH c l
    rw [cutB]
    split
    · simp
    · simp only [List.length_cons]; omega
/-- What ParseHeader answers. -/
def PhOut (w w' : World) (t : ByteArray) (e : Ending) : Prop := ∃ f c E : Int, e = .returned (.tuple #[.int .i64 f, .int .i64 c, .int .i64 E]) ∧ ((E = 0 ∧ hdrOk f c = true ∧ hdrB f c = t) ∨ (E = 2 ∧ f = 0 ∧ c = 0)) ∧ (∀ f' c', hdrOk f' c' = true → t = hdrB f' c' → E = 0 ∧ f = f' ∧ c = c') ∧ New w w'
theorem PhOut.yes {w w' : World} {t : ByteArray} {f c : Int} (h1 : hdrOk f c = true) (h2 : hdrB f c = t) (h3 : ∀ f' c', hdrOk f' c' = true → t = hdrB f' c' → f = f' ∧ c = c') (hn : New w w') : PhOut w w' t (.returned (.tuple #[.int .i64 f, .int .i64 c, .int .i64 0])) :=
  ⟨f, c, 0, rfl, .inl ⟨rfl, h1, h2⟩, fun f' c' a b => ⟨rfl, h3 f' c' a b⟩, hn⟩
theorem PhOut.no {w w' : World} {t : ByteArray} {f c : Int} (h1 : ¬ (hdrOk f c = true ∧ hdrB f c = t)) (h3 : ∀ f' c', hdrOk f' c' = true → t = hdrB f' c' → f = f' ∧ c = c') (hn : New w w') : PhOut w w' t (.returned (.tuple #[.int .i64 0, .int .i64 0, .int .i64 2])) :=
  ⟨0, 0, 2, rfl, .inr ⟨rfl, rfl, rfl⟩, fun f' c' a b => absurd ⟨by rw [(h3 f' c' a b).1, (h3 f' c' a b).2]; exact a, by rw [(h3 f' c' a b).1, (h3 f' c' a b).2]; exact b.symm⟩ h1, hn⟩
set_option maxRecDepth 100000 in
set_option maxHeartbeats 2000000 in
theorem ParseHeader_any (t : ByteArray) (w : World) (hv : VarsH w) (hs : t.size ≤ 1000000) :
    Calls Tryd.prog 10 #[.string t] w fun e w' => PhOut w w' t e := by
  have hl : t.data.toList.length = t.size := by rw [Array.length_toList]; rfl
  have HT := hid (fun w => trimH t w)
  have hT1 := trim_len t.data.toList
  have hcut := fun f c (h : hdrOk f c = true) => hdr_cut h
  obtain ⟨T, hT⟩ : ∃ T : ByteArray, T = ⟨(Lib.trimPrefix t.data.toList [98, 121, 116, 101, 115, 61]).toArray⟩ := ⟨_, rfl⟩
  have hTd : T.data.toList = Lib.trimPrefix t.data.toList [98, 121, 116, 101, 115, 61] := by rw [hT]
  have hTs : T.size ≤ 1000000 := by rw [hT, size_listH]; omega
  rw [← hT] at HT
  have HC := hid (fun W (n : New w W) => cutH T W (hv.new n) (by omega))
  obtain ⟨hc1, hc2⟩ := cutB_lenH 45 T.data.toList
  have hTl : T.data.toList.length = T.size := by rw [Array.length_toList]; rfl
  obtain ⟨A, hA⟩ : ∃ A : ByteArray, A = ⟨(cutB 45 T.data.toList).1.toArray⟩ := ⟨_, rfl⟩
  obtain ⟨B, hB⟩ : ∃ B : ByteArray, B = ⟨(cutB 45 T.data.toList).2.1.toArray⟩ := ⟨_, rfl⟩
  obtain ⟨V, hV⟩ : ∃ V, V = (cutB 45 T.data.toList).2.2 := ⟨_, rfl⟩
  have hAd : A.data.toList = (cutB 45 T.data.toList).1 := by rw [hA]
  have hBd : B.data.toList = (cutB 45 T.data.toList).2.1 := by rw [hB]
  have hAs : A.size ≤ 1000000 := by rw [hA, size_listH]; omega
  have hBs : B.size ≤ 1000000 := by rw [hB, size_listH]; omega
  rw [← hA, ← hB, ← hV] at HC
  have HAT := hid (fun W (n : New w W) => atoiH A W (hv.new n) (by omega))
  have HBT := hid (fun W (n : New w W) => atoiH B W (hv.new n) (by omega))
  have HH := hid (fun f c W (n : New w W) => Header_any 0 0 f c ⟨#[]⟩ W (hv.new n).tab)
  have HUN : Hid (∀ f' c', hdrOk f' c' = true → t = hdrB f' c' → Lib.atoiAll A.data.toList = .ok f' ∧ Lib.atoiAll B.data.toList = .ok (f' + c' - 1) ∧ 0 ≤ f' ∧ 1 ≤ c' ∧ f' ≤ 65536 ∧ c' ≤ 65536) := hid (fun f' c' hk ht => by
    obtain ⟨g0, g1, g2, g3⟩ := hdrOk_iff.1 hk
    have := hcut f' c' hk
    rw [← ht, ← hTd] at this
    rw [hAd, hBd, this]
    exact ⟨atoi_itoa g0 (by omega), atoi_itoa (by omega) (by omega), g0, g1, g2, g3⟩)
  clear hv hl hT1 hcut hT hTd hc1 hc2 hTl hA hB hV hAd hBd
  go_enter Tryd.func10, Tryd.ntmps10
  go_wp2_with fail
  refine (HT.out _).mono ?_
  rintro e w1 ⟨rfl, rfl⟩
  go_wp2_with fail
  refine (HC.out _ (Mod.refl _ _)).mono ?_
  rintro e w2 ⟨rfl, n2⟩
  have N2 := hid n2
  clear n2
  go_wp2_with fail
  refine (HAT.out _ N2.out).mono ?_
  intro e w3 ho
  obtain ⟨f, x1, rfl, ⟨f0, f1⟩, hfu, n3⟩ := ho
  have N3 := hid (N2.out.trans n3)
  have HFU := hid hfu
  clear n3 hfu
  go_wp2_with fail
  refine (HBT.out _ N3.out).mono ?_
  intro e w4 ho
  obtain ⟨l, x2, rfl, ⟨l0, l1⟩, hlu, n4⟩ := ho
  have N4 := hid (N3.out.trans n4)
  have HLU := hid hlu
  clear n4 hlu
  go_wp2_with fail
  obtain ⟨C, hC⟩ : ∃ C, C = wrap64 (wrap64 (l - f) + 1) := ⟨_, rfl⟩
  rw [← hC]
  have HCU : Hid (∀ f' c', hdrOk f' c' = true → t = hdrB f' c' → f = f' ∧ C = c') := hid (fun f' c' hk ht => by
    obtain ⟨u1, u2, u3, u4, u5, u6⟩ := HUN.out f' c' hk ht
    have e1 := HFU.out _ u1
    have e2 := HLU.out _ u2
    refine ⟨e1, ?_⟩
    rw [hC, e1, e2, IntWalk.wrap64_in (f' + c' - 1 - f') (by omega), IntWalk.wrap64_in _ (by omega)]
    omega)
  have HCE := hid hC
  clear hC
  refine (HH.out f C _ N4.out).mono ?_
  rintro e w5 ⟨rfl, n5⟩
  have N5 := hid (N4.out.trans n5)
  clear n5
  by_cases hok : hdrOk f C = true
  · rw [show hdrErr f C = 0 by unfold hdrErr; rw [if_pos hok], show hdrRes f C = hdrB f C by unfold hdrRes; rw [if_pos hok]]
    by_cases he : hdrB f C = t
    · have hee : ((hdrB f C).toList == t.toList) = true := by rw [he]; simp
      have HOK := hid (And.intro hok he)
      clear hok he
      go_wp2
      go_ret3
      rw [← HCE.out]
      exact PhOut.yes HOK.out.1 HOK.out.2 HCU.out N5.out
    · have hee : ((hdrB f C).toList == t.toList) = false := by
        rw [beq_eq_false_iff_ne, ByteArray.toList_eq, ByteArray.toList_eq]
        intro q
        exact he (by apply ByteArray.ext; apply Array.toList_inj.1; exact q)
      have HNO := hid (show ¬ (hdrOk f C = true ∧ hdrB f C = t) from fun q => he q.2)
      clear hok he
      go_wp2
      go_ret3
      exact PhOut.no HNO.out HCU.out N5.out
  · rw [show hdrErr f C = 7 by unfold hdrErr; rw [if_neg hok]]
    have HNO := hid (show ¬ (hdrOk f C = true ∧ hdrB f C = t) from fun q => hok q.1)
    clear hok
    go_wp2
    go_ret3
    exact PhOut.no HNO.out HCU.out N5.out
end Go.Proofs.YtnhgichiedninaaDoor
