/-
  Several texts in one, in their build order. Format (package magnet): what the walk holds; the closure that adds a part. Conditions as told. The walk of addr.Text. Conditions: the address is right; the library's variables are as laid.
-/
import Derived.Test.YtbgmkplpolgebaaGreatDoorM37
import Derived.Test.YtbgmkplpolgebaaGreatDoorM38
import Derived.Test.YtbgmkplpolgebaaGreatDoorM23
import Derived.Test.YtbgmkplpolgebaaGreatDoorM25
import Derived.Test.YtbgmkplpolgebaaGreatDoorM21
namespace Go.Proofs.YtbgmkplpolgebaaGreatDoor
set_option linter.unusedSimpArgs false
set_option linter.unusedVariables false
open Go.RowKit Go.Shelf

/-- A part as the program writes it. -/
def kvB (k v : ByteArray) : ByteArray := k ++ ⟨#[61]⟩ ++ v
theorem kvB_key (k : ByteArray) (v : List UInt8) : kvB k (mkB v) = mkB (keyT k v) := by
  unfold kvB keyT
  apply bytes_ext
  simp [mkB]
/-- Where the walk of Format stands: block C holds the list of parts. -/
structure FmS (w0 W : World) (m : MgV) (p : MgP) (C : Nat) (L : List ByteArray) : Prop where
  bA : Blk W w0.heap.size (magRow m p) 27
  cell : ∃ v, Blk W C #[v] 23 ∧ OwnS W (C + 1) v L
  hC : w0.heap.size < C
  new : New w0 W
theorem FmS.next {w0 W W' : World} {m : MgV} {p : MgP} {C : Nat} {L : List ByteArray} (h : FmS w0 W m p C L) (n : New W W') : FmS w0 W' m p C L := by
  obtain ⟨v, h1, h2⟩ := h.cell
  exact ⟨New.blk n h.bA, ⟨v, New.blk n h1, h2.new n⟩, h.hC, h.new.trans n⟩
theorem FmS.same {w0 W : World} {m : MgV} {p : MgP} {C : Nat} {L L' : List ByteArray} (h : FmS w0 W m p C L) (e : L = L') : FmS w0 W m p C L' := e ▸ h
set_option maxRecDepth 100000 in
set_option maxHeartbeats 4000000 in
theorem add_any (k x : ByteArray) (C : Nat) (w0 w : World) (m : MgV) (p : MgP) (L : List ByteArray) (h : FmS w0 w m p C L) (hl : L.length ≤ 1000) (hk : k.size ≤ 100) (hx : x.size ≤ 100000) :
    Calls Tryz.prog 51 #[.string k, .string x, .pointer (some ⟨C, 0, none⟩)] w fun e w' => e = .returned (.tuple #[]) ∧ FmS w0 w' m p C (L ++ [kvB k x]) := by
  obtain ⟨i0, hi, hz0, hz1, hz2⟩ := info_parts info_strM
  obtain ⟨v, hv, ho⟩ := h.cell
  obtain ⟨a, c, rfl⟩ := ho.form
  have HH := hid h; have HO := hid ho; have HV := hid hv
  have c0 : w.cell? ⟨C, 0, none⟩ = some (.slice a L.length c) := hv.cellv 0 rfl
  have cl := hv.lt
  have hne : (Value.slice a L.length c).ownBlock ≠ some C := fun q => by have := (ho.block q).1; omega
  have HNE := hid hne
  have h61 : (⟨#[61]⟩ : ByteArray).size = 1 := rfl
  have hke : (k ++ (⟨#[61]⟩ : ByteArray)).size = k.size + 1 := by rw [ByteArray.size_append, h61]
  have HE := hid (show k ++ (⟨#[61]⟩ : ByteArray) ++ x = kvB k x from rfl)
  have HS := hid (show (kvB k x).size ≤ maxLen by unfold kvB; rw [ByteArray.size_append, hke]; unfold maxLen; omega)
  clear h ho hv hne
  go_enter Tryz.func51, Tryz.ntmps51
  go_wp2_with (first | (at_builtin; refine wpList_append_own_at _ rfl _ _ 23 rfl (C + 1) 9 i0 _ 1 16 Tryz.underlying23 hi hz0 hz1 hz2 rfl (by decide) (.slice a L.length c) L.length (L.map Value.string) rfl ?zow ⟨w.heap.size, 0, none⟩ 1 1 [.string (k ++ ⟨#[61]⟩ ++ x)] rfl rfl ?zhn ?zh1 ?zh63 ?zhby ?zhba ?_) | fail)
  case zow => exact (HO.out.new ((Mod.refl _ _).alloc _)).row
  try case zhn => exact cell_one_new _ _ _
  try case zh1 => first | rfl | (intro u hu; simp at hu; subst hu; rfl)
  case zh63 => unfold maxLen; omega
  case zhby => omega
  case zhba => simp; omega
  intro o' w' r' g' _ hat
  rw [HE.out] at r' g'
  have H2 := hid (ownS_of HO.out.small HS.out r')
  have M := hid (((Mod.refl (fun k => (Value.slice a L.length c).ownBlock = some k) w).alloc (.cells #[.string (kvB k x)] 9)).trans (mod_grownS g'))
  have HAT := hid hat
  have HV2 := hid (M.out.blk HV.out HNE.out)
  clear r' g' hat c0
  have c0 : w'.cell? ⟨C, 0, none⟩ = some (.slice a L.length c) := HV2.out.cellv 0 rfl
  have cl2 := HV2.out.lt
  have cf := HV2.out.frz 0
  obtain ⟨a9, c9, hof⟩ := H2.out.form
  rw [List.length_append, List.length_singleton] at hof
  subst hof
  go_wp2
  refine bodyPost_end (results_none rfl _ _ _) rfl ?_
  have hno : (Value.slice a9 (L.length + 1) c9).ownBlock ≠ some C := fun q => by have := (H2.out.block q).1; omega
  have B3 := HV2.out.set 0 (.slice a9 (L.length + 1) c9)
  refine ⟨rfl, ?_, ⟨_, B3, ?_⟩, HH.out.hC, ?_⟩
  · have h1 := HH.out.hC
    refine ((Mod.refl (fun j => j = C) _).set _ _ (.inl rfl)).blk (M.out.blk HH.out.bA ?_) (by omega)
    intro q
    have := (HO.out.block q).1
    omega
  · exact H2.out.mod ((Mod.refl (fun j => j = C) _).set _ _ (.inl rfl)) (fun k q e => hno (by rw [q, e]))
  · have h1 := HH.out.hC
    refine (HH.out.new.trans' M.out (fun j q1 q2 => ?_)).trans' ((Mod.refl (fun j => j = C) _).set _ _ (.inl rfl)) (fun j q1 q2 => ?_)
    · have := (HO.out.block q2).1
      omega
    · omega
end Go.Proofs.YtbgmkplpolgebaaGreatDoor

namespace Go.Proofs.YtbgmkplpolgebaaGreatDoor
set_option linter.unusedSimpArgs false
set_option linter.unusedVariables false
open Go.RowKit Go.Shelf

theorem fmti_hex (u : Nat) (hu : u ≤ 65535) (w : World) (h : TzAt w) : Calls Tryz.prog 184 #[.int .i64 u, .int .i64 16] w fun e w' => e = .returned (.string ⟨(hexG u).toArray⟩) ∧ New w w' := by
  have HB := hid (fbits u hu w h)
  have hw : IntKind.u64.wrap (u : Int) = (u : Int) := by rw [IntKind.wrap_u64]; omega
  have h0 : ¬ (u : Int) < 0 := by omega
  clear h hu
  go_enter Tryz.func184, Tryz.ntmps184
  go_wp2_with fail
  refine HB.out.mono ?_
  rintro e w1 ⟨rfl, n1⟩
  have N1 := hid n1
  clear n1
  go_wp2
  go_ret
  exact ⟨rfl, N1.out⟩
theorem fmti_any (u : Nat) (hu : u ≤ 65535) (w : World) (h : VarP w) : Calls Tryz.prog 244 #[.int .i64 u, .int .i64 16] w fun e w' => e = .returned (.string (mkB (hexG u))) ∧ New w w' := by
  have HB := hid (fmti_hex u hu w h.tz)
  clear h hu
  go_enter Tryz.func244, Tryz.ntmps244
  go_wp2_with fail
  refine HB.out.mono ?_
  rintro e w1 ⟨rfl, n1⟩
  have N1 := hid n1
  clear n1
  go_wp2
  go_ret
  exact ⟨rfl, N1.out⟩
theorem itoa_mk (n : Nat) : itoaB (n : Int) = mkB (Lib.decDigits n) := by unfold itoaB; rw [itoa_nat]; rfl
def decB (b : UInt8) : ByteArray := itoaB (b.toNat : Int)
theorem decB_join (l : List UInt8) : mkB (Lib.join ((l.map decB).map (·.data.toList)) [46]) = mkB (Lib.join (l.map (fun b => Lib.decDigits b.toNat)) [46]) := by
  have e : (l.map decB).map (·.data.toList) = l.map (fun b => Lib.decDigits b.toNat) := by
    rw [List.map_map]
    refine List.map_congr_left (fun b _ => ?_)
    show (decB b).data.toList = _
    unfold decB
    rw [itoa_mk]
    rfl
  rw [e]
set_option maxRecDepth 100000 in
set_option maxHeartbeats 8000000 in
theorem four_text (ip : ByteArray) (hs : ip.size = 4) (w : World) (hv : VarP w) :
    Calls Tryz.prog 238 #[.agg #[], .string ip] w fun e w' => e = .returned (.string (mkB (Lib.join (ip.data.toList.map (fun b => Lib.decDigits b.toNat)) [46]))) ∧ New w w' := by
  obtain ⟨i1, hj, hy0, hy1, hy2⟩ := info_parts info_str
  have HV := hid (fun W (n : New w W) => (hv.new n).tab)
  obtain ⟨L, hL⟩ : ∃ L, L = ip.data.toList := ⟨_, rfl⟩
  have HRES := hid (show mkB (Lib.join (ip.data.toList.map (fun b => Lib.decDigits b.toNat)) [46]) = mkB (Lib.join ((L.map decB).map (·.data.toList)) [46]) by rw [hL, decB_join])
  have hLl : L.length = 4 := by rw [hL, Array.length_toList]; exact hs
  have HAT := hid (fun (k : Nat) (hk : k < 4) => show L[k]'(by omega) = ip[k]'(by omega) by subst hL; rfl)
  rw [HRES.out]
  clear hv hL HRES
  go_enter Tryz.func238, Tryz.ntmps238
  go_wp2
  go_loopw [7, 5] (fun i o wr => ∃ (k : Nat) (v : Value) (P : List ByteArray), i = .int .i64 k ∧ v = o ∧ k ≤ 4 ∧ P = (L.take k).map decB ∧ OwnT wr w.heap.size v P ∧ New w wr) (fun i _ _ => 4 - (intOf i).toNat)
  case atStart => exact ⟨0, _, [], rfl, rfl, by omega, by simp, OwnT.nil _ _, (Mod.refl _ _).alloc _⟩
  case round =>
    obtain ⟨k, v, P, rfl, rfl, hk, hP, hO, hN⟩ := hrel
    have HP := hid hP; have HO := hid hO; have HN := hid hN
    have hPl : P.length = k := by rw [hP, List.length_map, List.length_take]; omega
    clear hP hO hN
    by_cases hlt : k < 4
    · have hltI : (k : Int) < 4 := by omega
      have hks : k < ip.size := by omega
      have hksI : (k : Int) < (ip.size : Int) := by omega
      have HTK := hid (show (L.take (k + 1)).map decB = (L.take k).map decB ++ [itoaB ((ip[k].toNat : Nat) : Int)] by
        rw [List.take_add_one, List.getElem?_eq_getElem (by omega), HAT.out k hlt]
        simp [decB])
      have hb := ip[k].toNat_lt
      have hwp : wrap64 ((ip[k].toNat : Nat) : Int) = ((ip[k].toNat : Nat) : Int) := by unfold wrap64; omega
      obtain ⟨b, hbb⟩ : ∃ b, b = ip[k].toNat := ⟨_, rfl⟩
      rw [← hbb] at HTK hb
      have HI := hid (fun W (q : New wr W) => itoa_any (b : Int) (by omega) (by omega) W (HV.out W (HN.out.trans q)))
      rw [hbb] at HI
      clear hb
      go_wp2_with fail
      refine (HI.out _ (Mod.refl _ _)).mono ?_
      rintro e w3 ⟨rfl, n3⟩
      rw [← hbb]
      have HO3 := hid (HO.out.new n3)
      have N3 := hid (HN.out.trans n3)
      clear n3 hbb
      go_wp2_with (at_builtin; refine wpList_append_own_at _ rfl _ _ 23 rfl w.heap.size 9 i1 _ 1 16 Tryz.underlying23 hj hy0 hy1 hy2 rfl (by decide) v P.length (P.map Value.string) rfl ?ow ⟨w3.heap.size, 0, none⟩ 1 1 [.string (itoaB (b : Int))] rfl rfl ?hn ?h1 ?h63 ?hby ?hba ?_)
      case ow => exact HO3.out.new ((Mod.refl _ _).alloc _)
      case hn =>
        intro j u hj
        rw [add_none]
        match j, hj with
        | 0, hj => simp at hj; subst hj; exact (Blk.newAt (by simp)).cellv 0 rfl
      case h1 => intro u hu; simp at hu; subst hu; rfl
      case h63 => unfold maxLen; omega
      case hby => omega
      case hba => have := N3.out.size; simp at *; omega
      intro o3 w4 r3 g3 _ _
      have O3 : Hid (OwnT w4 w.heap.size o3 (P ++ [itoaB (b : Int)])) := hid (own_pushT r3 (by omega) rfl)
      have N4 : Hid (New w w4) := hid (newGrown (N3.out.alloc _) g3 (fun j hj => (World.ownsRow.lt HO3.out j hj).1))
      clear r3 g3
      go_wp2
      exact ⟨⟨k + 1, _, _, by simp, rfl, by omega, by rw [HTK.out, ← HP.out], O3.out, N4.out⟩, by simp [intOf]; omega⟩
    · obtain rfl : k = 4 := by omega
      have hP := HP.out
      rw [List.take_of_length_le (by omega)] at hP
      have hsz : ∀ x ∈ P, x.size ≤ 43 := by
        intro x hx
        rw [hP] at hx
        obtain ⟨b, hb, rfl⟩ := List.mem_map.1 hx
        have := b.toNat_lt
        have := itoa_size (n := (b.toNat : Int)) (by omega) (by omega)
        unfold decB
        omega
      obtain ⟨aa, dd, rfl, hst, -⟩ := owns_strs (p := P) HO.out (fun x hx => by have := hsz x hx; unfold maxLen; omega)
      have HJ := hid (join_c 46 aa dd P wr hst (by omega) (fun x hx => by have := hsz x hx; omega))
      rw [hPl] at HJ
      rw [hPl]
      have HR := hid (show mkB (Lib.join (P.map (·.data.toList)) [46]) = mkB (Lib.join ((L.map decB).map (·.data.toList)) [46]) by rw [hP])
      clear hst hsz hP
      go_wp2_with fail
      refine HJ.out.mono ?_
      rintro e w3 ⟨rfl, n3⟩
      have N3 := hid (HN.out.trans n3)
      clear n3
      go_wp2
      go_ret
      exact ⟨by rw [HR.out]; rfl, N3.out⟩
end Go.Proofs.YtbgmkplpolgebaaGreatDoor
