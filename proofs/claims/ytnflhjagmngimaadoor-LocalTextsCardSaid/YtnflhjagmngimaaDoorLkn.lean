/-
  The walk of the function that reads a name's line. Conditions: the message that is read lies as told.
-/
import Derived.Test.YtnflhjagmngimaaDoorLk
import Derived.Test.YtnflhjagmngimaaDoorOpen
namespace Go.Proofs.YtnflhjagmngimaaDoor
set_option linter.unusedSimpArgs false
set_option linter.unusedVariables false
open Go.RowKit Go.Shelf

theorem kname_val (l : List ByteArray) (t : List UInt8) : (decide (unhexE t = 0) && namesB (addN l (unhexB t))) = (match unhex t with
    | some r => namesB (addN l r)
    | none => false) := by
  cases h : unhex t with
  | none =>
    have := unhex_no h
    rw [this.2]
    rfl
  | some r =>
    obtain ⟨e1, e2⟩ := unhex_yes h
    rw [e1, e2]
    rfl
theorem unhexB_len (t : List UInt8) : (unhexB t).length ≤ t.length := by
  cases h : unhex t with
  | none =>
    rw [(unhex_no h).1]
    simp
  | some r =>
    have e := congrArg List.length (hex_unhex t h)
    rw [hex_len] at e
    rw [(unhex_yes h).1]
    omega
set_option maxRecDepth 100000 in
set_option maxHeartbeats 4000000 in
theorem k2_any (B : Nat) (p : Int) (v : Value) (l : List ByteArray) (ck nx rest : ByteArray) (ln : Int) (w : World) (hO : OwnT w (B + 1) v l) (hl : l.length ≤ 20) (hB : Blk w B #[.int .i64 p, v, .string ck, .int .i64 ln, .string nx] 55) (hs : rest.size ≤ 65536) :
    Calls Tryd.prog 50 #[.pointer (some ⟨B, 0, none⟩), .string rest] w fun e w' => ∃ v', e = .returned (.bool (decide (unhexE rest.data.toList = 0) && namesB (addN l (unhexB rest.data.toList)))) ∧ Blk w' B #[.int .i64 p, v', .string ck, .int .i64 ln, .string ⟨#[78, 97, 109, 101, 58, 32, 67, 111, 111, 107, 105, 101, 58, 32]⟩] 55 ∧ OwnT w' (B + 1) v' (addN l (unhexB rest.data.toList)) ∧ Mod (fun k => B ≤ k) w w' := by
  have HF := hid (fun W => fromHex_any rest W hs)
  have HNM := hid (fun a c L W (q : StrsAt W a c L) => names_any a c L W q)
  obtain ⟨i1, hj, hy0, hy1, hy2⟩ := info_parts info_str
  have hub : (⟨(unhexB rest.data.toList).toArray⟩ : ByteArray).size ≤ maxLen := by
    have := unhexB_len rest.data.toList
    have e : rest.data.toList.length = rest.size := by rw [Array.length_toList]; rfl
    show (unhexB rest.data.toList).toArray.size ≤ _
    unfold maxLen
    simp
    omega
  obtain ⟨U, hU⟩ : ∃ U : ByteArray, U = ⟨(unhexB rest.data.toList).toArray⟩ := ⟨_, rfl⟩
  obtain ⟨E, hE⟩ : ∃ E, E = unhexE rest.data.toList := ⟨_, rfl⟩
  have hadd : addN l (unhexB rest.data.toList) = l ++ [U] := by rw [hU]; rfl
  rw [hadd]
  rw [← hU] at HF hub
  rw [← hE] at HF ⊢
  obtain ⟨L, hL⟩ : ∃ L, L = l ++ [U] := ⟨_, rfl⟩
  rw [← hL]
  have HL := hid hL
  clear hL
  obtain ⟨R, hR⟩ : ∃ R, R = (decide (E = 0) && namesB L) := ⟨_, rfl⟩
  rw [← hR]
  have HR := hid hR
  clear hR
  have HO := hid hO; have HB := hid hB
  have HUB := hid hub
  clear hO hB hU hE hadd hub
  have dB := HB.out.lt
  go_enter Tryd.func50, Tryd.ntmps50
  go_wp2_with fail
  refine (HF.out _).mono ?_
  rintro e w1 ⟨rfl, n1⟩
  have HB1 := hid (n1.blk HB.out); have HO1 := hid (HO.out.new n1)
  have HM1 : Hid (Mod (fun k => B ≤ k) w w1) := hid n1.mod
  have hsz1 := n1.size
  clear n1
  have d1 := HB1.out.cellv 1 rfl; have d4 := HB1.out.cellv 4 rfl; have dl := HB1.out.lt; have df := HB1.out.frz
  go_wp2_with (at_builtin; refine wpList_append_own_at _ rfl _ _ 22 rfl (B + 1) 9 i1 _ 1 16 Tryd.underlying22 hj hy0 hy1 hy2 rfl (by decide) v l.length (l.map Value.string) rfl ?ow ⟨w1.heap.size, 0, none⟩ 1 1 [.string U] rfl rfl ?hn ?h1 ?h63 ?hby ?hba ?_)
  case ow => exact (HO1.out.new ((Mod.refl _ _).alloc _)).row
  case hn =>
    intro j u hj
    rw [add_none]
    match j, hj with
    | 0, hj => simp at hj; subst hj; exact (Blk.newAt (by simp)).cellv 0 rfl
  case h1 => intro u hu; simp at hu; subst hu; rfl
  case h63 => unfold maxLen; omega
  case hby => omega
  case hba => simp; omega
  intro o3 w3 r3 g3 _ _
  have O3 : Hid (OwnT w3 (B + 1) o3 (l ++ [U])) := hid (ownT_of HO1.out.small HUB.out r3)
  have M3 : Hid (Mod (fun k => B + 1 ≤ k) w1 w3) := hid (mod_grownT (HO1.out.new ((Mod.refl _ _).alloc _)) (Nat.le_refl _) ((Mod.refl _ _).alloc _) g3)
  have HB3 := hid (M3.out.blk HB1.out (by omega))
  have HM3 : Hid (Mod (fun k => B ≤ k) w w3) := hid (HM1.out.trans' M3.out (fun k _ q => by omega))
  clear r3 g3 d1 d4 dl df
  rw [← HL.out] at O3
  obtain ⟨a3, c3, rfl, hs3, hb3⟩ := O3.out.strs
  have HS3 := hid hs3
  have hr3 := hs3.room; have hcp3 := hs3.cap
  unfold maxLen at hcp3
  clear hs3 hb3
  have d1 := HB3.out.cellv 1 rfl; have d4 := HB3.out.cellv 4 rfl; have dl := HB3.out.lt; have df := HB3.out.frz
  have HB4 := hid ((HB3.out.set 1 (.slice a3 L.length c3)).set 4 (.string ⟨#[78, 97, 109, 101, 58, 32, 67, 111, 111, 107, 105, 101, 58, 32]⟩))
  have HM4 : Hid (Mod (fun k => k = B) w3 ((w3.setCell ⟨B, 1, none⟩ (.slice a3 L.length c3)).setCell ⟨B, 4, none⟩ (.string ⟨#[78, 97, 109, 101, 58, 32, 67, 111, 111, 107, 105, 101, 58, 32]⟩))) := hid (Mod.set (S := fun k => k = B) (Mod.set (S := fun k => k = B) (Mod.refl _ _) ⟨B, 1, none⟩ _ (.inl rfl)) ⟨B, 4, none⟩ _ (.inl rfl))
  have HO4 := hid (O3.out.mod HM4.out (fun k hk _ q => by omega))
  have HMM := hid (HM3.out.trans' HM4.out (fun k _ q => by (show B ≤ k; omega)))
  have HNA := hid (HNM.out a3 c3 L _ (by obtain ⟨a4, c4, q, q2, -⟩ := HO4.out.strs; cases q; exact q2))
  by_cases hE : E = 0
  · have hEI : (E == 0) = true := by rw [hE]; rfl
    have HRR := hid (show R = namesB L by rw [HR.out, decide_eq_true hE, Bool.true_and])
    subst hE
    go_wp2_with (go_at_call 14; refine HNA.out.mono ?_; rintro e w5 ⟨rfl, rfl⟩)
    go_ret
    exact ⟨_, ret_bool HRR.out.symm, HB4.out, HO4.out, HMM.out⟩
  · have hEI : (E == 0) = false := by rw [beq_eq_false_iff_ne]; exact hE
    have HRR := hid (show R = false by rw [HR.out, decide_eq_false hE, Bool.false_and])
    clear hE
    go_wp2
    go_ret
    exact ⟨_, ret_bool HRR.out.symm, HB4.out, HO4.out, HMM.out⟩
end Go.Proofs.YtnflhjagmngimaaDoor
