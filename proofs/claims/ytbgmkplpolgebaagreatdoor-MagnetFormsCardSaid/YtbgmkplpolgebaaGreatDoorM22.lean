/-
  Several texts in one, in their build order. The reference's Text of a field. Conditions: the field is right. The reference's Parse of a text of runs. Conditions: at most 4096 bits; the text is small. What is read of a magnet's text is right. Plain Lean, no program. No condition.
-/
import Derived.Test.YtbgmkplpolgebaaGreatDoorM18
import Derived.Test.YtbgmkplpolgebaaGreatDoorM21
import Derived.Test.YtbgmkplpolgebaaGreatDoorM11
namespace Go.Proofs.YtbgmkplpolgebaaGreatDoor
set_option linter.unusedSimpArgs false
set_option linter.unusedVariables false
open Go.RowKit Go.Shelf

theorem joinTail_snoc (c : UInt8) (x : List UInt8) : ∀ (L : List (List UInt8)), Lib.joinTail [c] (L ++ [x]) = Lib.joinTail [c] L ++ c :: x
  | [] => by simp [Lib.joinTail]
  | y :: L => by
    have e : ∀ M : List (List UInt8), Lib.joinTail [c] (y :: M) = c :: (y ++ Lib.joinTail [c] M) := fun M => by simp [Lib.joinTail]
    rw [List.cons_append, e, e, joinTail_snoc c x L]
    simp
theorem join_snoc (c : UInt8) (x : List UInt8) (L : List (List UInt8)) (h : L ≠ []) : Lib.join (L ++ [x]) [c] = Lib.join L [c] ++ c :: x := by
  cases L with
  | nil => exact absurd rfl h
  | cons y L =>
    rw [List.cons_append, Lib.join_cons, Lib.join_cons, joinTail_snoc]
    simp
theorem txtR_one (r : Int × Int) : txtR [r] = pieceT r := by
  unfold txtR
  rw [List.map_cons, List.map_nil, Lib.join_one]
theorem txtR_snoc (A : List (Int × Int)) (r : Int × Int) (h : A ≠ []) : txtR (A ++ [r]) = txtR A ++ 44 :: pieceT r := by
  unfold txtR
  rw [List.map_append, List.map_cons, List.map_nil, join_snoc _ _ _ (by simpa using h)]
theorem txtR_len {A : List (Int × Int)} {n : Nat} (hn : n ≤ 4096) (h : ∀ r ∈ A, 0 ≤ r.1 ∧ 1 ≤ r.2 ∧ r.1 + r.2 ≤ n) (hl : A.length ≤ 4096) : (txtR A).length ≤ 4096 * 44 := by
  unfold txtR
  have := join_len 44 43 (A.map pieceT) (fun x hx => by
    obtain ⟨r, hr, rfl⟩ := List.mem_map.1 hx
    obtain ⟨h0, h1, h2⟩ := h r hr
    have := piece_size h0 (by omega : r.1 + r.2 ≤ 4097) h1
    have e : (pieceB r).size = (pieceT r).length := size_list _
    omega)
  rw [List.length_map] at this
  have h3 : A.length * (43 + 1) ≤ 4096 * 44 := Nat.mul_le_mul_right _ hl
  omega
theorem dec_int {z : Int} (h0 : 0 ≤ z) (h1 : z ≤ 100000) (w : World) : Calls Tryz.prog 121 #[.int .i64 z] w fun e w' => e = .returned (.string (itoaB z)) ∧ New w w' := by
  obtain ⟨m, rfl⟩ := Int.eq_ofNat_of_zero_le h0
  exact decimal_nat m (by omega) w
set_option maxRecDepth 100000 in
set_option maxHeartbeats 8000000 in
theorem rText_any (n : Nat) (s : ByteArray) (w : World) (h : FieldOf n s.data.toList) (hn : n ≤ 4096) :
    Calls Tryz.prog 60 #[.int .i64 n, .string s] w fun e w' => e = .returned (.tuple #[.string (mkB (txtR (runsF n s.data.toList))), .int .i64 0]) ∧ New w w' := by
  have HRU := hid (rRuns_any n s w h hn)
  have HG := runs_good (n := n) (numsL n s.data.toList) (fun i hi => numsL_lt hi)
  have hNL := numsL_le n s.data.toList
  obtain ⟨U, hU⟩ : ∃ U, U = runsF n s.data.toList := ⟨_, rfl⟩
  have hUG : (∀ r ∈ U, 0 ≤ r.1 ∧ 1 ≤ r.2 ∧ r.1 + r.2 ≤ n) ∧ U.length ≤ 4096 := by rw [hU]; exact ⟨HG.1, by have := HG.2; unfold runsF; omega⟩
  rw [← hU] at HRU ⊢
  have HUG := hid hUG.1
  have hUl := hUG.2
  clear hU HG hNL hUG h
  go_enter Tryz.func60, Tryz.ntmps60
  go_wp2_with fail
  refine HRU.out.mono ?_
  rintro e w1 ⟨v0, rfl, ho, n1⟩
  obtain ⟨a, c, rfl, hc1, hc2, hat⟩ := ho.runs
  unfold maxLen at hc2
  have N1 := hid n1
  have HAT := hid hat
  clear n1 ho hat HRU
  go_wp2
  go_loopw [19, 8] (fun i o wr => ∃ (k : Nat) (b : ByteArray), i = .int .i64 k ∧ o = .string b ∧ k ≤ U.length ∧ b.data.toList = txtR (U.take k) ∧ New w1 wr) (fun i _ _ => U.length - (intOf i).toNat)
  case atStart => exact ⟨0, _, rfl, rfl, by omega, by rw [List.take_zero]; rfl, Mod.refl _ _⟩
  case round =>
    obtain ⟨k, b, rfl, rfl, hk, hO, hN⟩ := hrel
    have HO := hid hO; have HN := hid hN
    have hbl := txtR_len hn (A := U.take k) (fun r hr => HUG.out r (List.mem_of_mem_take hr)) (by rw [List.length_take]; omega)
    rw [← hO] at hbl
    have hbs : b.data.toList.length = b.size := by rw [Array.length_toList]; rfl
    have hbz : b.size ≤ 180224 := by omega
    clear hO hN hbl hbs
    by_cases hlt : k < U.length
    · have hltI : (k : Int) < (U.length : Int) := by omega
      rcases HAT.out with hnil | ⟨bb, oo, rfl, hbb, hcc⟩
      · rw [hnil] at hlt; simp at hlt
      · obtain ⟨g0, g1⟩ := hcc k hlt
        have g0 := New.cellv HN.out g0
        have g1 := New.cellv HN.out g1
        have htk := lst_next hlt
        obtain ⟨hr0, hr1, hr2⟩ := HUG.out _ (List.getElem_mem hlt)
        obtain ⟨r, hr⟩ : ∃ r, r = U[k] := ⟨_, rfl⟩
        rw [← hr] at g0 g1 htk hr0 hr1 hr2
        have HTK := hid htk
        clear hcc hr htk
        have HI1 := hid (fun W => dec_int (z := r.1) (by omega) (by omega) W)
        have hs1 := itoa_size (n := r.1) (by omega) (by omega)
        by_cases h0 : k = 0
        · have hk0 : ¬ (0 : Int) < (k : Int) := by omega
          have HT := hid (show txtR (U.take (k + 1)) = txtR (U.take k) ++ pieceT r by
            rw [HTK.out]
            subst h0
            rw [List.take_zero, List.nil_append, txtR_one]
            rfl)
          clear h0
          by_cases h2 : 1 < r.2
          · have HI2 := hid (fun W => dec_int (z := r.1 + r.2 - 1) (by omega) (by omega) W)
            have hs2 := itoa_size (n := r.1 + r.2 - 1) (by omega) (by omega)
            have hw1 : IntKind.i64.wrap (r.1 + r.2) = r.1 + r.2 := by rw [IntKind.wrap_i64]; omega
            have hw2 : IntKind.i64.wrap (r.1 + r.2 - 1) = r.1 + r.2 - 1 := by rw [IntKind.wrap_i64]; omega
            have hpt : pieceT r = (itoaB r.1).data.toList ++ 45 :: (itoaB (r.1 + r.2 - 1)).data.toList := by unfold pieceT; rw [if_pos h2]; rfl
            rw [hpt] at HT
            clear hpt
            go_wp2_with fail
            refine (HI1.out _).mono ?_
            rintro e w2 ⟨rfl, n2⟩
            have hb2 := n2.blk (Blk.new wr #[.int .i64 r.1, .int .i64 r.2] 66)
            have x0 := hb2.cellv 0 rfl; have x1 := hb2.cellv 1 rfl; have xl := hb2.lt
            have N2 := hid (((Mod.refl (fun _ => False) wr).alloc (.cells #[.int .i64 r.1, .int .i64 r.2] 66)).trans n2)
            clear n2 hb2
            go_wp2_with fail
            refine (HI2.out _).mono ?_
            rintro e w3 ⟨rfl, n3⟩
            have N3 := hid ((HN.out.trans N2.out).trans n3)
            clear n3 x0 x1 xl
            go_wp2
            exact ⟨⟨k + 1, _, by simp, rfl, by omega, by rw [HT.out, ← HO.out]; simp, N3.out⟩, by simp [intOf]; omega⟩
          · have hpt : pieceT r = (itoaB r.1).data.toList := by unfold pieceT; rw [if_neg h2, List.append_nil]; rfl
            rw [hpt] at HT
            clear hpt
            go_wp2_with fail
            refine (HI1.out _).mono ?_
            rintro e w2 ⟨rfl, n2⟩
            have hb2 := n2.blk (Blk.new wr #[.int .i64 r.1, .int .i64 r.2] 66)
            have x0 := hb2.cellv 0 rfl; have x1 := hb2.cellv 1 rfl; have xl := hb2.lt
            have N2 := hid ((HN.out.trans ((Mod.refl (fun _ => False) wr).alloc (.cells #[.int .i64 r.1, .int .i64 r.2] 66))).trans n2)
            clear n2 hb2
            go_wp2
            exact ⟨⟨k + 1, _, by simp, rfl, by omega, by rw [HT.out, ← HO.out]; simp, N2.out⟩, by simp [intOf]; omega⟩
        · have hk0 : (0 : Int) < (k : Int) := by omega
          have HT := hid (show txtR (U.take (k + 1)) = txtR (U.take k) ++ 44 :: pieceT r by
            rw [HTK.out, txtR_snoc]
            intro q
            rw [List.take_eq_nil_iff] at q
            rcases q with q | q
            · exact h0 q
            · rw [q] at hlt
              simp at hlt)
          clear h0
          by_cases h2 : 1 < r.2
          · have HI2 := hid (fun W => dec_int (z := r.1 + r.2 - 1) (by omega) (by omega) W)
            have hs2 := itoa_size (n := r.1 + r.2 - 1) (by omega) (by omega)
            have hw1 : IntKind.i64.wrap (r.1 + r.2) = r.1 + r.2 := by rw [IntKind.wrap_i64]; omega
            have hw2 : IntKind.i64.wrap (r.1 + r.2 - 1) = r.1 + r.2 - 1 := by rw [IntKind.wrap_i64]; omega
            have hpt : pieceT r = (itoaB r.1).data.toList ++ 45 :: (itoaB (r.1 + r.2 - 1)).data.toList := by unfold pieceT; rw [if_pos h2]; rfl
            rw [hpt] at HT
            clear hpt
            go_wp2_with fail
            refine (HI1.out _).mono ?_
            rintro e w2 ⟨rfl, n2⟩
            have hb2 := n2.blk (Blk.new wr #[.int .i64 r.1, .int .i64 r.2] 66)
            have x0 := hb2.cellv 0 rfl; have x1 := hb2.cellv 1 rfl; have xl := hb2.lt
            have N2 := hid (((Mod.refl (fun _ => False) wr).alloc (.cells #[.int .i64 r.1, .int .i64 r.2] 66)).trans n2)
            clear n2 hb2
            go_wp2_with fail
            refine (HI2.out _).mono ?_
            rintro e w3 ⟨rfl, n3⟩
            have N3 := hid ((HN.out.trans N2.out).trans n3)
            clear n3 x0 x1 xl
            go_wp2
            exact ⟨⟨k + 1, _, by simp, rfl, by omega, by rw [HT.out, ← HO.out]; simp, N3.out⟩, by simp [intOf]; omega⟩
          · have hpt : pieceT r = (itoaB r.1).data.toList := by unfold pieceT; rw [if_neg h2, List.append_nil]; rfl
            rw [hpt] at HT
            clear hpt
            go_wp2_with fail
            refine (HI1.out _).mono ?_
            rintro e w2 ⟨rfl, n2⟩
            have hb2 := n2.blk (Blk.new wr #[.int .i64 r.1, .int .i64 r.2] 66)
            have x0 := hb2.cellv 0 rfl; have x1 := hb2.cellv 1 rfl; have xl := hb2.lt
            have N2 := hid ((HN.out.trans ((Mod.refl (fun _ => False) wr).alloc (.cells #[.int .i64 r.1, .int .i64 r.2] 66))).trans n2)
            clear n2 hb2
            go_wp2
            exact ⟨⟨k + 1, _, by simp, rfl, by omega, by rw [HT.out, ← HO.out]; simp, N2.out⟩, by simp [intOf]; omega⟩
    · obtain rfl : k = U.length := by omega
      rw [List.take_length] at HO
      have HB := hid (show b = mkB (txtR U) from bytes_ext HO.out)
      go_wp2
      go_ret2
      exact ⟨by rw [HB.out]; rfl, N1.out.trans HN.out⟩
end Go.Proofs.YtbgmkplpolgebaaGreatDoor

namespace Go.Proofs.YtbgmkplpolgebaaGreatDoor
set_option linter.unusedSimpArgs false
set_option linter.unusedVariables false
open Go.RowKit Go.Shelf

end Go.Proofs.YtbgmkplpolgebaaGreatDoor

namespace Go.Proofs.YtbgmkplpolgebaaGreatDoor
set_option linter.unusedSimpArgs false
set_option linter.unusedVariables false

structure MgOk (m : MgV) : Prop where
  old : m.old.size = 0 ∨ m.old.size = 20
  new : m.new.size = 0 ∨ m.new.size = 32
  name : m.name.size ≤ 100
  tr : ∀ s ∈ m.tr, 1 ≤ s.size ∧ s.size ≤ 200
  trl : m.tr.length ≤ 10
  ws : ∀ s ∈ m.ws, 1 ≤ s.size ∧ s.size ≤ 200
  wsl : m.ws.length ≤ 10
  pe : ∀ a ∈ m.pe, adrOk a = true
  pel : m.pe.length ≤ 20
  on : ∃ f, FieldOf 40 f ∧ m.on = runsF 40 f
theorem runsF_zero (n : Nat) : runsF n (zerosL n) = [] := by
  unfold runsF
  have : numsL n (zerosL n) = [] := by
    unfold numsL
    rw [List.filter_eq_nil_iff]
    intro j _
    unfold zerosL
    rw [bitL_zero]
    decide
  rw [this]
  rfl
theorem MgOk.zero : MgOk mg0 := ⟨.inl rfl, .inl rfl, by decide, by simp [mg0], by decide, by simp [mg0], by decide, by simp [mg0], by decide, ⟨zerosL 40, FieldOf.zero 40, (runsF_zero 40).symm⟩⟩
theorem hexC_len {s x : List UInt8} (h : hexC s = some x) : s.length = 2 * x.length := by
  unfold hexC at h
  have := congrArg List.length (hex_unhex _ h)
  rw [List.length_map, hex_len] at this
  exact this
theorem tO_size {r r' : RdM} {s : ByteArray} (h : tO r s = .ok r') (ho : r.old.size = 0 ∨ r.old.size = 20) : r'.old.size = 0 ∨ r'.old.size = 20 := by
  unfold tO at h
  split at h
  · split at h
    · cases h
    · next hsz =>
      split at h
      · cases h
      · next x hx =>
        split at h
        · cases h
        · injection h with h
          subst h
          have := hexC_len hx
          have hl : (digU uOld s).data.toList.length = (digU uOld s).size := by rw [Array.length_toList]; rfl
          right
          show (⟨x.toArray⟩ : ByteArray).size = 20
          rw [show (⟨x.toArray⟩ : ByteArray).size = x.length by simp [ByteArray.size]]
          simp only [ne_eq, Decidable.not_not] at hsz
          omega
  · injection h with h
    subst h
    exact ho
theorem tN_size {r r' : RdM} {s : ByteArray} (h : tN r s = .ok r') (ho : r.new.size = 0 ∨ r.new.size = 32) : r'.new.size = 0 ∨ r'.new.size = 32 := by
  unfold tN at h
  split at h
  · split at h
    · cases h
    · next hsz =>
      split at h
      · cases h
      · next x hx =>
        split at h
        · cases h
        · injection h with h
          subst h
          have := hexC_len hx
          have hl : (digU uNew s).data.toList.length = (digU uNew s).size := by rw [Array.length_toList]; rfl
          right
          show (⟨x.toArray⟩ : ByteArray).size = 32
          rw [show (⟨x.toArray⟩ : ByteArray).size = x.length by simp [ByteArray.size]]
          simp only [ne_eq, Decidable.not_not] at hsz
          omega
  · injection h with h
    subst h
    exact ho
theorem topM_ok {m m' : MgV} {s : ByteArray} (h : topM m s = .ok m') (k : MgOk m) : MgOk m' := by
  unfold topM topicR at h
  cases h1 : tO (rdZero m) s with
  | error e => rw [h1] at h; cases h
  | ok q =>
    rw [h1] at h
    simp only at h
    cases h2 : tN q s with
    | error e => rw [h2] at h; cases h
    | ok q' =>
      rw [h2] at h
      injection h with h
      subst h
      have e1 := (tO_rest h1).2.2.2.2.2.2.2
      have e2 := (tN_rest h2).2.2.2.2.2.2.2
      refine ⟨?_, ?_, k.name, k.tr, k.trl, k.ws, k.wsl, k.pe, k.pel, k.on⟩
      · show q'.old.size = 0 ∨ _
        rw [e2]
        exact tO_size h1 k.old
      · exact tN_size h2 (by rw [e1]; exact k.new)
theorem nameM_ok {m m' : MgV} {s : List UInt8} (h : nameM m s = .ok m') (k : MgOk m) : MgOk m' := by
  unfold nameM at h
  split at h
  · cases h
  · next x hx =>
    split at h
    · cases h
    · next c =>
      split at h
      · cases h
      · injection h with h
        subst h
        refine ⟨k.old, k.new, ?_, k.tr, k.trl, k.ws, k.wsl, k.pe, k.pel, k.on⟩
        show (mkB x).size ≤ 100
        rw [show (mkB x).size = x.length by simp [mkB, ByteArray.size]]
        omega
theorem textP_ok {l l' : List ByteArray} {s : List UInt8} (h : textP l s = .ok l') (h1 : ∀ s ∈ l, 1 ≤ s.size ∧ s.size ≤ 200) (h2 : l.length ≤ 10) : (∀ s ∈ l', 1 ≤ s.size ∧ s.size ≤ 200) ∧ l'.length ≤ 10 := by
  unfold textP at h
  split at h
  · cases h
  · next x hx =>
    split at h
    · cases h
    · next c =>
      split at h
      · cases h
      · next c2 =>
        injection h with h
        subst h
        refine ⟨fun y hy => ?_, by rw [List.length_append, List.length_singleton]; omega⟩
        rcases List.mem_append.1 hy with q | q
        · exact h1 y q
        · simp only [List.mem_singleton] at q
          subst q
          rw [show (mkB x).size = x.length by simp [mkB, ByteArray.size]]
          have : x.length ≠ 0 := fun e => c (.inl (List.eq_nil_of_length_eq_zero e))
          omega
theorem trM_ok {m m' : MgV} {s : List UInt8} (h : trM m s = .ok m') (k : MgOk m) : MgOk m' := by
  unfold trM at h
  split at h
  · next l hl =>
    injection h with h
    subst h
    obtain ⟨h1, h2⟩ := textP_ok hl k.tr k.trl
    exact ⟨k.old, k.new, k.name, h1, h2, k.ws, k.wsl, k.pe, k.pel, k.on⟩
  · cases h
theorem wsM_ok {m m' : MgV} {s : List UInt8} (h : wsM m s = .ok m') (k : MgOk m) : MgOk m' := by
  unfold wsM at h
  split at h
  · next l hl =>
    injection h with h
    subst h
    obtain ⟨h1, h2⟩ := textP_ok hl k.ws k.wsl
    exact ⟨k.old, k.new, k.name, k.tr, k.trl, h1, h2, k.pe, k.pel, k.on⟩
  · cases h
theorem peM_ok {m m' : MgV} {s : List UInt8} (h : peM m s = .ok m') (k : MgOk m) : MgOk m' := by
  unfold peM at h
  split at h
  · cases h
  · next x hx =>
    split at h
    · cases h
    · next a ha =>
      split at h
      · cases h
      · next c =>
        injection h with h
        subst h
        refine ⟨k.old, k.new, k.name, k.tr, k.trl, k.ws, k.wsl, fun y hy => ?_, ?_, k.on⟩
        · rcases List.mem_append.1 hy with q | q
          · exact k.pe y q
          · simp only [List.mem_singleton] at q
            subst q
            exact (aP_text ha).1
        · show (m.pe ++ [a]).length ≤ 20
          rw [List.length_append, List.length_singleton]
          omega
theorem soM_ok {m m' : MgV} {s : List UInt8} (h : soM m s = .ok m') (k : MgOk m) : MgOk m' := by
  unfold soM at h
  split at h
  · cases h
  · next f hf =>
    split at h
    · cases h
    · split at h
      · cases h
      · injection h with h
        subst h
        exact ⟨k.old, k.new, k.name, k.tr, k.trl, k.ws, k.wsl, k.pe, k.pel, ⟨f, bitsP_field hf, rfl⟩⟩
theorem partM_ok {m m' : MgV} {key value : List UInt8} (h : partM m key value = .ok m') (k : MgOk m) : MgOk m' := by
  unfold partM at h
  split at h
  · exact topM_ok h k
  · split at h
    · exact nameM_ok h k
    · split at h
      · exact trM_ok h k
      · split at h
        · exact wsM_ok h k
        · split at h
          · exact peM_ok h k
          · split at h
            · exact soM_ok h k
            · injection h with h
              subst h
              exact k
theorem pieceM_ok {m m' : MgV} {p : List UInt8} (h : pieceM m p = .ok m') (k : MgOk m) : MgOk m' := by
  unfold pieceM at h
  split at h
  · exact partM_ok h k
  · cases h
theorem foldM_ok : ∀ {A : List (List UInt8)} {m m' : MgV}, foldM m A = .ok m' → MgOk m → MgOk m'
  | [], m, m', h, k => by
    injection h with h
    subst h
    exact k
  | p :: A, m, m', h, k => by
    simp only [foldM] at h
    cases hp : pieceM m p with
    | error e => rw [hp] at h; cases h
    | ok m1 =>
      rw [hp] at h
      exact foldM_ok h (pieceM_ok hp k)
/-- What is read is right, and has a topic. -/
theorem magP_ok {s : List UInt8} {m : MgV} (h : magP s = .ok m) : MgOk m ∧ ¬ (m.old.data.toList = [] ∧ m.new.data.toList = []) := by
  unfold magP at h
  split at h
  · cases h
  · split at h
    · unfold restM at h
      split at h
      · cases h
      · next m1 h1 =>
        unfold endM at h
        split at h
        · cases h
        · next c =>
          injection h with h
          subst h
          exact ⟨foldM_ok h1 MgOk.zero, c⟩
    · cases h
end Go.Proofs.YtbgmkplpolgebaaGreatDoor
