/-
  The walks of the three functions that read a line's rest (port, name, cookie). Conditions: the message that is read lies as told; the library's variables are as laid.
-/
import Derived.Test.YtnflhjagmngimaaDoorLts
import Derived.Test.YtnflhjagmngimaaDoorFx
import Derived.Test.YtnflhjagmngimaaDoorVl
import Derived.Maps.AppendAt
namespace Go.Proofs.YtnflhjagmngimaaDoor
set_option linter.unusedSimpArgs false
set_option linter.unusedVariables false
open Go.RowKit Go.Shelf

theorem portP_err {r : List UInt8} (h : ∀ v, Lib.atoiAll r ≠ .ok v) : portP r = none := by
  unfold portP
  split
  · next n q => exact absurd q (h n)
  · rfl
theorem portP_ok {r : List UInt8} {n : Int} (h : Lib.atoiAll r = .ok n) : portP r = if Lib.itoa n = r ∧ 1 ≤ n ∧ n ≤ 65535 then some n else none := by
  unfold portP
  rw [h]
theorem portP_val {r : List UInt8} {n : Int} (h : portP r = some n) : atoiV r = n := by
  cases ha : Lib.atoiAll r with
  | ok v =>
    rw [portP_ok ha] at h
    split at h
    · rw [atoi_ok ha]
      exact Option.some.inj h
    · cases h
  | _ => rw [portP_err (fun v => by rw [ha]; simp)] at h; cases h
theorem itoa_is (n : Int) (t : ByteArray) : ((itoaB n).toList == t.toList) = decide (Lib.itoa n = t.data.toList) := by
  rw [ByteArray.toList_eq, ByteArray.toList_eq, Bool.eq_iff_iff]
  simp [itoaB]
set_option maxRecDepth 100000 in
set_option maxHeartbeats 4000000 in
theorem k1_any (B : Nat) (p : Int) (v : Value) (ck nx rest : ByteArray) (ln : Int) (w0 w : World) (hv : VarsL w0) (hn0 : New w0 w) (hB0 : w0.heap.size ≤ B) (hB : Blk w B #[.int .i64 p, v, .string ck, .int .i64 ln, .string nx] 55) (hs : rest.size ≤ 65536) :
    Calls Tryd.prog 49 #[.pointer (some ⟨B, 0, none⟩), .string rest] w fun e w' => e = .returned (.bool (portP rest.data.toList).isSome) ∧ Blk w' B #[.int .i64 (atoiV rest.data.toList), v, .string ck, .int .i64 ln, .string ⟨#[78, 97, 109, 101, 58, 32]⟩] 55 ∧ Mod (fun k => k = B) w w' := by
  have HA := hid (atoi_full rest w (hv.new hn0) (by omega))
  have HIT := hid (fun (n : Int) (q0 : -9223372036854775808 ≤ n) (q1 : n ≤ 9223372036854775807) W (m : New w0 W) => itoa_any n q0 q1 W (hv.tab.new m))
  obtain ⟨bl, bu⟩ := atoi_inL (l := rest.data.toList)
  have HEQ := hid (fun n => itoa_is n rest)
  obtain ⟨n, hn⟩ : ∃ n, n = atoiV rest.data.toList := ⟨_, rfl⟩
  rw [← hn] at bl bu
  have HN0 := hid hn0
  have HB := hid hB
  have HNV := hid hn
  have HBI := hid hB0
  rw [← hn]
  clear hv hn0 hB hn hB0
  go_enter Tryd.func49, Tryd.ntmps49
  go_wp2_with fail
  refine HA.out.mono ?_
  intro e w1 ho
  obtain ⟨x, rfl, hx, n1⟩ := ho
  have N1 := hid n1
  have HB1 := hid (n1.blk HB.out)
  have d0 := HB1.out.cellv 0 rfl; have d4 := HB1.out.cellv 4 rfl; have dl := HB1.out.lt; have df := HB1.out.frz
  have HN2 : Hid (New w0 ((w1.setCell ⟨B, 0, none⟩ (.int .i64 n)).setCell ⟨B, 4, none⟩ (.string ⟨#[78, 97, 109, 101, 58, 32]⟩))) := hid (((HN0.out.trans n1).set _ _ (.inr HBI.out)).set _ _ (.inr HBI.out))
  have HBB := hid ((HB1.out.set 0 (.int .i64 n)).set 4 (.string ⟨#[78, 97, 109, 101, 58, 32]⟩))
  have HMM : Hid (Mod (fun k => k = B) w ((w1.setCell ⟨B, 0, none⟩ (.int .i64 n)).setCell ⟨B, 4, none⟩ (.string ⟨#[78, 97, 109, 101, 58, 32]⟩))) := hid (Mod.set (S := fun k => k = B) (Mod.set (S := fun k => k = B) n1.mod ⟨B, 0, none⟩ _ (.inl rfl)) ⟨B, 4, none⟩ _ (.inl rfl))
  clear n1
  rw [← HNV.out] at hx ⊢
  rcases hx with ⟨hok, rfl⟩ | ⟨hno, N, rfl⟩
  · have HP := hid (portP_ok hok)
    have HI := hid (HIT.out n bl bu _ HN2.out)
    have heq := HEQ.out n
    obtain ⟨I, hI⟩ : ∃ I, I = itoaB n := ⟨_, rfl⟩
    rw [← hI] at HI heq
    clear hok hI
    by_cases q0 : Lib.itoa n = rest.data.toList
    · rw [decide_eq_true q0] at heq
      have HQ := hid q0
      clear q0
      by_cases q1 : 1 ≤ n
      · by_cases q2 : n ≤ 65535
        · have HR := hid (show (portP rest.data.toList).isSome = true by rw [HP.out, if_pos ⟨HQ.out, q1, q2⟩]; rfl)
          go_wp2_with fail
          refine HI.out.mono ?_
          rintro e w3 ⟨rfl, n3⟩
          have N3 := hid n3
          clear n3
          go_wp2
          go_ret
          exact ⟨ret_bool (by first | exact HR.out.symm | (rw [HR.out]; simp; omega)), N3.out.blk HBB.out, HMM.out.trans N3.out.mod⟩
        · have HR := hid (show (portP rest.data.toList).isSome = false by rw [HP.out, if_neg (fun q => q2 q.2.2)]; rfl)
          go_wp2_with fail
          refine HI.out.mono ?_
          rintro e w3 ⟨rfl, n3⟩
          have N3 := hid n3
          clear n3
          go_wp2
          go_ret
          exact ⟨ret_bool (by first | exact HR.out.symm | (rw [HR.out]; simp; omega)), N3.out.blk HBB.out, HMM.out.trans N3.out.mod⟩
      · have HR := hid (show (portP rest.data.toList).isSome = false by rw [HP.out, if_neg (fun q => q1 q.2.1)]; rfl)
        go_wp2_with fail
        refine HI.out.mono ?_
        rintro e w3 ⟨rfl, n3⟩
        have N3 := hid n3
        clear n3
        go_wp2
        go_ret
        exact ⟨ret_bool (by first | exact HR.out.symm | (rw [HR.out]; simp; omega)), N3.out.blk HBB.out, HMM.out.trans N3.out.mod⟩
    · rw [decide_eq_false q0] at heq
      have HR := hid (show (portP rest.data.toList).isSome = false by rw [HP.out, if_neg (fun q => q0 q.1)]; rfl)
      clear q0
      go_wp2_with fail
      refine HI.out.mono ?_
      rintro e w3 ⟨rfl, n3⟩
      have N3 := hid n3
      clear n3
      go_wp2
      go_ret
      exact ⟨ret_bool (by first | exact HR.out.symm | (rw [HR.out]; simp; omega)), N3.out.blk HBB.out, HMM.out.trans N3.out.mod⟩
  · have HR := hid (show (portP rest.data.toList).isSome = false by rw [portP_err hno]; rfl)
    clear hno
    go_wp2
    go_ret
    exact ⟨ret_bool HR.out.symm, HBB.out, HMM.out⟩
set_option maxRecDepth 100000 in
set_option maxHeartbeats 4000000 in
theorem k3_any (B : Nat) (p : Int) (v : Value) (ck nx rest : ByteArray) (ln : Int) (w : World) (hB : Blk w B #[.int .i64 p, v, .string ck, .int .i64 ln, .string nx] 55) (hs : rest.size ≤ 65536) :
    Calls Tryd.prog 52 #[.pointer (some ⟨B, 0, none⟩), .string rest] w fun e w' => e = .returned (.bool (cookieOk rest)) ∧ Blk w' B #[.int .i64 p, v, .string rest, .int .i64 ln, .string ⟨#[]⟩] 55 ∧ Mod (fun k => k = B) w w' := by
  have HCK := hid (fun W => cookie_any rest W (by unfold maxLen; omega))
  have HB := hid hB
  have d2 := HB.out.cellv 2 rfl; have d4 := HB.out.cellv 4 rfl; have dl := HB.out.lt; have df := HB.out.frz
  have HBB := hid ((HB.out.set 2 (.string rest)).set 4 (.string ⟨#[]⟩))
  have HMM : Hid (Mod (fun k => k = B) w ((w.setCell ⟨B, 2, none⟩ (.string rest)).setCell ⟨B, 4, none⟩ (.string ⟨#[]⟩))) := hid (Mod.set (S := fun k => k = B) (Mod.set (S := fun k => k = B) (Mod.refl _ _) ⟨B, 2, none⟩ _ (.inl rfl)) ⟨B, 4, none⟩ _ (.inl rfl))
  clear hB
  go_enter Tryd.func52, Tryd.ntmps52
  go_wp2_with fail
  refine (HCK.out _).mono ?_
  rintro e w3 ⟨rfl, rfl⟩
  go_wp2
  go_ret
  exact ⟨rfl, HBB.out, HMM.out⟩
end Go.Proofs.YtnflhjagmngimaaDoor
