/-
  The walk of Escape (the reference). Condition: the text is small.
-/
import Derived.Test.YtecjdppkpfpniaaGreatDoorEsB
namespace Go.Proofs.YtecjdppkpfpniaaGreatDoor
set_option linter.unusedSimpArgs false
set_option linter.unusedVariables false
open Go.RowKit Go.Shelf

def upStr : ByteArray := ⟨#[48, 49, 50, 51, 52, 53, 54, 55, 56, 57, 65, 66, 67, 68, 69, 70]⟩
theorem up_at {n : Nat} (h : n < 16) : (upStr[n]'(show n < 16 from h)) = upD n := by
  have h2 : ∀ n : Fin 16, (upStr[n.1]'(show n.1 < 16 from n.2)) = upD n.1 := by decide +kernel
  exact h2 ⟨n, h⟩
theorem ownY_none {w : World} {b : Nat} (h : Blk w b #[] 5) : OwnY w b (.slice (some ⟨b, 0, none⟩) 0 0) [] :=
  ⟨by simp [byV], .inr ⟨b, 0, #[], rfl, Nat.le_refl _, h, Nat.le_refl _, by simp [maxLen], by simp, by simp [byV]⟩⟩
theorem ownY_base {w : World} {b b' : Nat} {v : Value} {l : List UInt8} (h : OwnY w b v l) (hb : b' ≤ b) : OwnY w b' v l := by
  refine ⟨h.1, ?_⟩
  rcases h.2 with h1 | ⟨g, cap, cur, e, hbg, rest⟩
  · exact .inl h1
  · exact .inr ⟨g, cap, cur, e, Nat.le_trans hb hbg, rest⟩
set_option maxRecDepth 100000 in
set_option maxHeartbeats 8000000 in
theorem rescape_any (s : ByteArray) (w : World) (hs : s.size ≤ 4000000) : Calls Tryz.prog 22 #[.string s] w fun e w' => e = .returned (.string ⟨(eOf s.data.toList).toArray⟩) ∧ New w w' := by
  have HP := hid (fun c w => rplain_any c w)
  have hlen : s.data.toList.length = s.size := by rw [Array.length_toList]; rfl
  obtain ⟨i0, hi, hz0, hz1, hz2⟩ := info_parts info_byte
  have HO1 : Hid (OwnY (w.alloc (.cells #[] 5)) w.heap.size (.slice (some ⟨w.heap.size, 0, none⟩) 0 0) []) := hid (ownY_none (Blk.new w _ _))
  have HN1 : Hid (New w (w.alloc (.cells #[] 5))) := hid ((Mod.refl _ _).alloc _)
  go_enter Tryz.func22, Tryz.ntmps22
  go_wp2_with fail
  go_loopw [3, 8] (fun v i wr => ∃ (k : Nat) (o : Value), o = v ∧ i = .int .i64 k ∧ k ≤ s.size ∧ OwnY wr w.heap.size o (eOf (s.data.toList.take k)) ∧ New w wr) (fun _ i _ => s.size - (intOf i).toNat)
  case atStart => exact ⟨0, _, rfl, rfl, by omega, by rw [List.take_zero]; exact HO1.out, HN1.out⟩
  case round =>
    clear HO1 HN1
    obtain ⟨k, o, rfl, rfl, hk, ho, hn⟩ := hrel
    have HO := hid ho; have HN := hid hn
    have hsz := hn.size
    clear ho hn
    by_cases hlt : k < s.size
    · have HNX := hid (eOf_next (l := s.data.toList) (k := k) (by omega))
      rw [byteAtE s hlt] at HNX
      have hltI : (k : Int) < (s.size : Int) := by omega
      have hacc := eOf_len (s.data.toList.take k)
      rw [List.length_take] at hacc
      obtain ⟨acc, hac⟩ : ∃ acc, acc = eOf (s.data.toList.take k) := ⟨_, rfl⟩
      rw [← hac] at HNX HO hacc
      clear hac
      cases hp : plainE s[k] with
      | true =>
        have HPC := hid (fun w => HP.out s[k] w)
        rw [hp] at HPC
        rw [eB, hp, if_pos rfl] at HNX
        clear hp
        go_wp2_with fail
        refine (HPC.out _).mono ?_
        rintro e w3 ⟨rfl, rfl⟩
        go_wp2_with (at_builtin; refine wpList_append_own_at _ rfl _ _ 59 rfl w.heap.size 5 i0 _ 1 1 Tryz.underlying59 hi hz0 hz1 hz2 rfl (by decide) _ acc.length (byV acc) rfl ?ow ⟨wr.heap.size, 0, none⟩ 1 1 [.int .u8 (s[k].toNat : Int)] rfl rfl ?hn ?h1 ?h63 ?hby ?hba ?_)
        case ow => exact HO.out.new ((Mod.refl _ _).alloc _)
        case hn =>
          intro j u hj
          rw [show (⟨wr.heap.size, 0, none⟩ : Addr).add j = ⟨wr.heap.size, 0 + j, none⟩ by unfold Addr.add; split <;> simp_all]
          match j, hj with
          | 0, hj => simp at hj; subst hj; exact (Blk.newAt (by simp)).cellv 0 rfl
        case h1 => intro u hu; simp at hu; subst hu; rfl
        case h63 => unfold maxLen; omega
        case hby => omega
        case hba => simp; omega
        intro o' w' r' g' _ _
        have O' := hid (ownY_of (l := acc) [s[k]] r')
        have N' := hid (new_grownY (HO.out.new ((Mod.refl _ _).alloc _)) (Nat.le_refl _) (HN.out.alloc _) g')
        clear r' g'
        go_wp2_with fail
        exact ⟨⟨k + 1, _, rfl, by simp, by omega, by rw [HNX.out]; exact O'.out, N'.out⟩, by simp [intOf]; omega⟩
      | false =>
        have HPC := hid (fun w => HP.out s[k] w)
        rw [hp] at HPC
        rw [eB, hp, if_neg (by decide)] at HNX
        clear hp
        obtain ⟨H, hH⟩ : ∃ H : Nat, H = s[k].toNat / 16 := ⟨_, rfl⟩
        obtain ⟨L, hL⟩ : ∃ L : Nat, L = s[k].toNat % 16 := ⟨_, rfl⟩
        have eQ : (s[k].toNat : Int).tdiv 16 = (H : Int) := by rw [Int.tdiv_eq_ediv_of_nonneg (by omega), hH]; rfl
        have eR : (s[k].toNat : Int).tmod 16 = (L : Int) := by rw [Int.tmod_eq_emod_of_nonneg (by omega), hL]; rfl
        have hH16 : H < 16 := by have := s[k].toNat_lt; omega
        have hL16 : L < 16 := by omega
        rw [← hH, ← hL] at HNX
        have cH := up_at hH16; have cL := up_at hL16
        unfold upStr at cH cL
        have iH : (H : Int) < 16 := by omega
        have eW : IntKind.u8.wrap (H : Int) = (H : Int) := IntWalk.u8_in _ (by omega)
        have eV : IntKind.u8.wrap (L : Int) = (L : Int) := IntWalk.u8_in _ (by omega)
        have iL : (L : Int) < 16 := by omega
        have h63 : acc.length + 3 ≤ maxLen := by unfold maxLen; omega
        have hby : (acc.length + 3) * 1 ≤ 140737488355328 := by omega
        have k1 : (0 : Int) ≤ (k : Int) := by omega
        have k2 : (0 : Int) ≤ (H : Int) := by omega
        have k3 : (0 : Int) ≤ (L : Int) := by omega
        clear hH hL
        go_wp2_with fail
        refine (HPC.out _).mono ?_
        rintro e w3 ⟨rfl, rfl⟩
        go_wp2_with fail
        go_region_held3 (fun w' => True) (trivial) ((refine step_append_lies _ (by rfl) _ _ _ (by rfl) w.heap.size 5 i0 (.int .u8 0) 1 1 Tryz.underlying59 hi hz0 hz1 hz2 (by rfl) (by omega) o _ _ (by rfl) (HO.out.new (((Mod.refl _ _).drew).alloc _)) ⟨wr.heap.size, 0, none⟩ 3 3 [.int .u8 37, .int .u8 ((upD H).toNat : Int), .int .u8 ((upD L).toNat : Int)] (by rfl) (by rfl) (World.news_of_block (heap_alloc_new _ _)) (by intro u hu; simp at hu; rcases hu with rfl | rfl | rfl <;> rfl) (by omega) h63 hby (by simp; omega) _ (by rfl) ?_; intro g cap w1 hown hgrow hat hglt))
        all_goals go_wp2
        all_goals exact ⟨⟨k + 1, _, rfl, by simp, by omega, by rw [HNX.out]; exact ownY_of [37, upD H, upD L] hown, new_grownY HO.out (Nat.le_refl _) HN.out ⟨hgrow.os, hgrow.tape, hgrow.output, Nat.le_trans (by simp) hgrow.size, fun q hq hx => (hgrow.block q (by simp; omega) hx).trans (Below.heap_alloc _ _ q (by simpa using hq))⟩⟩, by simp [intOf]; omega⟩
    · have hkl : s.data.toList.take k = s.data.toList := List.take_of_length_le (by omega)
      rw [hkl] at HO
      have HT := hid (ownY_text HO.out)
      have hcv := HT.out
      clear hkl
      go_wp2
      go_ret
      exact ⟨rfl, HN.out⟩
end Go.Proofs.YtecjdppkpfpniaaGreatDoor
