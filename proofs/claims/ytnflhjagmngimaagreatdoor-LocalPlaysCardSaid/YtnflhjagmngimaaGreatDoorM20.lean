/-
  Several texts in one, in their build order. Hexadecimal digits read two at a time: what has been read so far. Plain Lean, no program. No condition. The walk of hash.FromHex: hexadecimal digits read. Condition: the text is no longer than the bound. The walks of the three functions that read a line's rest (port, name, cookie). Conditions: the message that is read lies as told; the library's variables are as laid. An argument that is a slice of structs (any number of one-cell fields): its cells. Over any program. No condition.
-/
import Derived.Test.YtnflhjagmngimaaGreatDoorM5
import Derived.Lib.Bytealg
import Derived.Test.YtnflhjagmngimaaGreatDoorM4
import Derived.Test.YtnflhjagmngimaaGreatDoorM7
import Derived.Test.YtnflhjagmngimaaGreatDoorM9
import Derived.Test.YtnflhjagmngimaaGreatDoorM14
import Derived.Maps.AppendAt
import Derived.Test.YtnflhjagmngimaaGreatDoorM1
import Derived.Deep.Slices
import Derived.Deep.Fields
import Derived.ChangeSame
import Derived.ProofKit
import Derived.OpenShut
namespace Go.Proofs.YtnflhjagmngimaaGreatDoor
set_option linter.unusedSimpArgs false
set_option linter.unusedVariables false

def nibD (c : UInt8) : Nat := (nib c).getD 0
theorem nib_lt {c : UInt8} {n : Nat} (h : nib c = some n) : n < 16 := (low_nib h).2
theorem nibD_lt (c : UInt8) : nibD c < 16 := by
  unfold nibD
  cases h : nib c with
  | none => decide
  | some n => exact nib_lt h
def half : List UInt8 → List UInt8
  | [] => []
  | [a] => [UInt8.ofNat (16 * nibD a)]
  | a :: b :: r => UInt8.ofNat (16 * nibD a + nibD b) :: half r
theorem half_one : ∀ (p : List UInt8) (a : UInt8), p.length % 2 = 0 → half (p ++ [a]) = half p ++ [UInt8.ofNat (16 * nibD a)]
  | [], a, _ => rfl
  | [x], a, h => by simp at h
  | x :: y :: r, a, h => by
    have := half_one r a (by simp only [List.length_cons] at h; omega)
    simp only [List.cons_append, half, this]
theorem half_two : ∀ (p : List UInt8) (a b : UInt8), p.length % 2 = 0 → half (p ++ [a, b]) = half p ++ [UInt8.ofNat (16 * nibD a + nibD b)]
  | [], a, b, _ => rfl
  | [x], a, b, h => by simp at h
  | x :: y :: r, a, b, h => by
    have := half_two r a b (by simp only [List.length_cons] at h; omega)
    simp only [List.cons_append, half, this]
theorem half_len : ∀ l : List UInt8, (half l).length = (l.length + 1) / 2
  | [] => rfl
  | [a] => by simp [half]
  | a :: b :: r => by
    have := half_len r
    simp only [half, List.length_cons, this]
    omega
theorem unhex_half : ∀ l : List UInt8, l.length % 2 = 0 → (∀ c ∈ l, (nib c).isSome = true) → unhex l = some (half l)
  | [], _, _ => rfl
  | [a], h, _ => by simp at h
  | a :: b :: r, h, hn => by
    have := unhex_half r (by simp only [List.length_cons] at h; omega) (fun c hc => hn c (by simp [hc]))
    have ha := hn a (by simp)
    have hb := hn b (by simp)
    cases ea : nib a with
    | none => rw [ea] at ha; cases ha
    | some x =>
      cases eb : nib b with
      | none => rw [eb] at hb; cases hb
      | some y =>
        rw [unhex, ea, eb, this]
        simp only [half, nibD, ea, eb, Option.getD_some]
theorem unhex_bad : ∀ (l : List UInt8) (c : UInt8), c ∈ l → nib c = none → unhex l = none
  | [], c, h, _ => by simp at h
  | [a], c, h, _ => rfl
  | a :: b :: r, c, h, hn => by
    rw [unhex]
    simp only [List.mem_cons] at h
    rcases h with rfl | rfl | h
    · rw [hn]
    · rw [hn]; cases nib a <;> rfl
    · rw [unhex_bad r c h hn]
      cases nib a <;> cases nib b <;> rfl
theorem unhex_odd : ∀ l : List UInt8, l.length % 2 = 1 → unhex l = none
  | [], h => by simp at h
  | [a], _ => rfl
  | a :: b :: r, h => by
    rw [unhex, unhex_odd r (by simp only [List.length_cons] at h; omega)]
    cases nib a <;> cases nib b <;> rfl
def nibI (c : UInt8) : Int := match nib c with
  | some n => (n : Int)
  | none => -1
theorem nibI_some {c : UInt8} {n : Nat} (h : nib c = some n) : nibI c = (n : Int) := by unfold nibI; rw [h]
theorem nibI_none {c : UInt8} (h : nib c = none) : nibI c = -1 := by unfold nibI; rw [h]
theorem index_nib (c : UInt8) : Lib.indexByte hexLows c = nibI c := by
  have key : ∀ k : Nat, k < 256 → Lib.indexByte hexLows (UInt8.ofNat k) = nibI (UInt8.ofNat k) := by decide +kernel
  have := key c.toNat c.toNat_lt
  rwa [UInt8.ofNat_toNat] at this
def unhexE (l : List UInt8) : Int := if (unhex l).isSome then 0 else 2
def unhexB (l : List UInt8) : List UInt8 := (unhex l).getD []
theorem unhex_no {l : List UInt8} (h : unhex l = none) : unhexB l = [] ∧ unhexE l = 2 := by
  unfold unhexB unhexE
  rw [h]
  exact ⟨rfl, rfl⟩
theorem unhex_yes {l t : List UInt8} (h : unhex l = some t) : unhexB l = t ∧ unhexE l = 0 := by
  unfold unhexB unhexE
  rw [h]
  exact ⟨rfl, rfl⟩
theorem half_next0 {l : List UInt8} {k : Nat} (h : k < l.length) (he : k % 2 = 0) : half (l.take (k + 1)) = half (l.take k) ++ [UInt8.ofNat (16 * nibD l[k])] := by
  rw [List.take_add_one, List.getElem?_eq_getElem h]
  exact half_one _ _ (by rw [List.length_take]; omega)
/-- At an odd place: the byte written last, and the same with the lower half. -/
theorem half_next1 {l : List UInt8} {k : Nat} (h : k < l.length) (he : k % 2 = 1) : ∃ (p : List UInt8) (a : Nat), a < 16 ∧ p.length = k / 2 ∧ half (l.take k) = p ++ [UInt8.ofNat (16 * a)] ∧ half (l.take (k + 1)) = p ++ [UInt8.ofNat (16 * a + nibD l[k])] := by
  obtain ⟨j, rfl⟩ : ∃ j, k = j + 1 := ⟨k - 1, by omega⟩
  have e1 : l.take (j + 1) = l.take j ++ [l[j]] := by
    rw [List.take_add_one, List.getElem?_eq_getElem (by omega)]
    rfl
  have e2 : l.take (j + 1 + 1) = l.take j ++ [l[j], l[j + 1]] := by
    rw [List.take_add_one, List.getElem?_eq_getElem h, e1, List.append_assoc]
    rfl
  have hj : (l.take j).length % 2 = 0 := by rw [List.length_take]; omega
  refine ⟨half (l.take j), nibD l[j], nibD_lt _, by rw [half_len, List.length_take]; omega, by rw [e1]; exact half_one _ _ hj, by rw [e2]; exact half_two _ _ _ hj⟩
theorem or_low {a b : Nat} (ha : a < 16) (hb : b < 16) : bits .or .u8 ((UInt8.ofNat (16 * a)).toNat : Int) (b : Int) = ((UInt8.ofNat (16 * a + b)).toNat : Int) := by
  have key : ∀ a : Nat, a < 16 → ∀ b : Nat, b < 16 → bits .or .u8 ((UInt8.ofNat (16 * a)).toNat : Int) (b : Int) = ((UInt8.ofNat (16 * a + b)).toNat : Int) := by decide +kernel
  exact key a ha b hb
theorem mk_high {a : Nat} (ha : a < 16) : ((UInt8.ofNat (16 * a)).toNat : Int) = 16 * (a : Int) := by
  rw [UInt8.toNat_ofNat', Nat.mod_eq_of_lt (by omega)]
  omega
theorem mk_both {a b : Nat} (ha : a < 16) (hb : b < 16) : ((UInt8.ofNat (16 * a + b)).toNat : Int) = 16 * (a : Int) + b := by
  rw [UInt8.toNat_ofNat', Nat.mod_eq_of_lt (by omega)]
  omega
end Go.Proofs.YtnflhjagmngimaaGreatDoor

namespace Go.Proofs.YtnflhjagmngimaaGreatDoor
set_option linter.unusedSimpArgs false
set_option linter.unusedVariables false
open Go.RowKit

theorem idx_any (t : UInt8) (w : World) : Calls Tryz.prog 145 #[.string ⟨#[48, 49, 50, 51, 52, 53, 54, 55, 56, 57, 97, 98, 99, 100, 101, 102]⟩, .int .u8 (t.toNat : Int)] w fun e w' => e = .returned (.int .i64 (nibI t)) ∧ w = w' := by
  refine (Tryz.strings_IndexByte ⟨#[48, 49, 50, 51, 52, 53, 54, 55, 56, 57, 97, 98, 99, 100, 101, 102]⟩ (t.toNat : Int) w).mono ?_
  rintro e w' ⟨rfl, rfl⟩
  have h1 : ((t.toNat : Int).toNat.toUInt8) = t := by simp
  have h2 := index_nib t
  unfold hexLows at h2
  rw [h1]
  exact ⟨by rw [← h2], rfl⟩
theorem ret_hexE {l : List UInt8} {b : ByteArray} {e : Int} (h1 : b = ⟨(unhexB l).toArray⟩) (h2 : e = unhexE l) : Ending.returned (.tuple #[.string b, .int .i64 e]) = .returned (.tuple #[.string ⟨(unhexB l).toArray⟩, .int .i64 (unhexE l)]) := by rw [h1, h2]
set_option maxRecDepth 100000 in
set_option maxHeartbeats 4000000 in
theorem fromHex_any (t : ByteArray) (w : World) (hs : t.size ≤ 65536) : Calls Tryz.prog 163 #[.string t] w fun e w' => e = .returned (.tuple #[.string ⟨(unhexB t.data.toList).toArray⟩, .int .i64 (unhexE t.data.toList)]) ∧ New w w' := by
  have hlen : t.data.toList.length = t.size := by rw [Array.length_toList]; rfl
  obtain ⟨i0, hi, hz0, hz1, hz2⟩ := info_parts info_byte
  have hb1 : ¬ (65536 : Int) < (t.size : Int) := by omega
  by_cases hodd : t.size % 2 = 1
  · have HNO := hid (unhex_no (unhex_odd t.data.toList (by omega)))
    have hbI : ((t.size : Int) % 2 != 0) = true := by rw [bne_iff_ne]; omega
    clear hodd
    go_enter Tryz.func163, Tryz.ntmps163
    go_wp2
    go_ret2
    exact ⟨ret_hexE (by rw [HNO.out.1]) HNO.out.2.symm, Mod.refl _ _⟩
  have hbI : ((t.size : Int) % 2 != 0) = false := by rw [bne_eq_false_iff_eq]; omega
  have HEV := hid (show t.data.toList.length % 2 = 0 by omega)
  have HIX := hid (fun k (h : k < t.size) W => idx_any t[k] W)
  clear hodd
  go_enter Tryz.func163, Tryz.ntmps163
  go_wp2
  go_loopw [4, 16] (fun v i wr => ∃ (k : Nat) (o : Value), o = v ∧ i = .int .i64 k ∧ k ≤ t.size ∧ (∀ c ∈ t.data.toList.take k, (nib c).isSome = true) ∧ OwnY wr w.heap.size o (half (t.data.toList.take k)) ∧ New w wr) (fun _ i _ => t.size - (intOf i).toNat)
  case atStart => exact ⟨0, _, rfl, rfl, by omega, by simp, OwnY.nil _ _, Mod.refl _ _⟩
  case round =>
    obtain ⟨k, o, rfl, rfl, hk, hnb, ho, hn⟩ := hrel
    have HO := hid ho; have HN := hid hn; have HNB := hid hnb
    clear ho hn hnb
    by_cases hlt : k < t.size
    · have hltI : (k : Int) < (t.size : Int) := by omega
      have hix := HIX.out k hlt
      have hmem : t[k] ∈ t.data.toList := by rw [← byteAtL t hlt]; exact List.getElem_mem _
      cases hnb : nib t[k] with
      | none =>
        rw [nibI_none hnb] at hix
        have HX := hid hix
        have HNO := hid (unhex_no (unhex_bad t.data.toList _ hmem hnb))
        clear hix hmem hnb
        go_wp2_with fail
        refine (HX.out _).mono ?_
        rintro e w2 ⟨rfl, rfl⟩
        go_wp2
        go_ret2
        exact ⟨ret_hexE (by rw [HNO.out.1]) HNO.out.2.symm, HN.out⟩
      | some d =>
        rw [nibI_some hnb] at hix
        have HX := hid hix
        have hd16 := nib_lt hnb
        have hdd : nibD t[k] = d := by unfold nibD; rw [hnb]; rfl
        have HNB2 : Hid (∀ c ∈ t.data.toList.take (k + 1), (nib c).isSome = true) := hid (fun c hc => by
          rw [List.take_add_one, List.getElem?_eq_getElem (by omega)] at hc
          rcases List.mem_append.1 hc with q | q
          · exact HNB.out c q
          · simp only [Option.toList, List.mem_singleton] at q
            rw [q, byteAtL t hlt, hnb]
            rfl)
        clear hix hmem hnb
        rcases Nat.mod_two_eq_zero_or_one k with he | he
        · have HNX := hid (half_next0 (l := t.data.toList) (k := k) (by omega) he)
          rw [byteAtL t hlt, hdd] at HNX
          have heI : ((k : Int) % 2 == 0) = true := by rw [beq_iff_eq]; omega
          go_wp2_with fail
          refine (HX.out _).mono ?_
          rintro e w2 ⟨rfl, rfl⟩
          have HV := hid (show (d : Int) * 16 = ((UInt8.ofNat (16 * d)).toNat : Int) by rw [mk_high hd16]; omega)
          have hl1 : (half (t.data.toList.take k)).length ≤ 70000 := by rw [half_len, List.length_take]; omega
          have h63 : (half (t.data.toList.take k)).length + 1 ≤ maxLen := by unfold maxLen; omega
          have hby : ((half (t.data.toList.take k)).length + 1) * 1 ≤ 140737488355328 := by omega
          go_wp2_with (at_builtin; refine wpList_append_own_at _ rfl _ _ 100 rfl w.heap.size 5 i0 (.int .u8 0) 1 1 Tryz.underlying100 hi hz0 hz1 hz2 rfl (by decide) o _ _ rfl (HO.out.new ((Mod.refl _ _).alloc _)) ⟨wr.heap.size, 0, none⟩ 1 1 [.int .u8 ((d : Int) * 16)] rfl rfl (World.news_of_block (heap_alloc_new _ _)) (by intro u hu; simp at hu; subst hu; rfl) h63 hby ?hba ?_)
          case hba => have := HN.out.size; simp; omega
          intro o2 w2 r2 g2 _ l2
          have HO2 : Hid (OwnY w2 w.heap.size o2 (half (t.data.toList.take (k + 1)))) := hid (by
            rw [HNX.out]
            refine ownY_of _ ?_
            rw [HV.out] at r2
            exact r2)
          have HN2 : Hid (New w w2) := hid (new_grownY (HO.out.new ((Mod.refl _ _).alloc _)) (Nat.le_refl _) (HN.out.alloc _) g2)
          clear r2 g2 l2
          go_wp2
          exact ⟨⟨k + 1, _, rfl, by simp, by omega, HNB2.out, HO2.out, HN2.out⟩, by simp [intOf]; omega⟩
        · obtain ⟨p, a, ha16, hpl, hp1, hp2⟩ := half_next1 (l := t.data.toList) (k := k) (by omega) he
          rw [byteAtL t hlt, hdd] at hp2
          have HP2 := hid hp2
          rw [hp1] at HO
          have heI : ((k : Int) % 2 == 0) = false := by rw [beq_eq_false_iff_ne]; omega
          have hq : (k : Int) / 2 = (p.length : Int) := by omega
          have HOR : Hid (bits .or .u8 (16 * (a : Int) % 256) (d : Int) = ((UInt8.ofNat (16 * a + d)).toNat : Int)) := hid (by
            have := or_low ha16 hd16
            rw [mk_high ha16] at this
            rw [Int.emod_eq_of_lt (by omega) (by omega)]
            exact this)
          rcases HO.out.form with ⟨-, q⟩ | ⟨g, cap, rfl, hg0, hg1, hcap, hcm, hcell, hfz⟩
          · simp at q
          have hc1 := hcell p.length (by simp)
          rw [List.getElem_append_right (by simp)] at hc1
          simp only [Nat.sub_self, List.getElem_cons_zero] at hc1
          have hf1 := hfz p.length
          have HPUT := hid (HO.out.put (i := p.length) (by simp) (UInt8.ofNat (16 * a + d)))
          have hset : (p ++ [UInt8.ofNat (16 * a)]).set p.length (UInt8.ofNat (16 * a + d)) = p ++ [UInt8.ofNat (16 * a + d)] := by simp
          rw [hset, ← HP2.out] at HPUT
          have hln : (p ++ [UInt8.ofNat (16 * a)]).length = p.length + 1 := by simp
          rw [hln] at HPUT HO hcap ⊢
          have hG := hid hg0
          obtain ⟨n, hn⟩ : ∃ n, n = p.length := ⟨_, rfl⟩
          rw [← hn] at HPUT HO hcap hq hc1 hf1 ⊢
          clear hpl hn hln
          clear hset hp1 hp2 hcell hfz
          go_wp2_with fail
          refine (HX.out _).mono ?_
          rintro e w2 ⟨rfl, rfl⟩
          go_wp2
          rw [HOR.out]
          exact ⟨⟨k + 1, _, rfl, by simp, by omega, HNB2.out, HPUT.out, new_putY HN.out hG.out⟩, by simp [intOf]; omega⟩
    · have hkl : t.data.toList.take k = t.data.toList := List.take_of_length_le (by omega)
      rw [hkl] at HO HNB
      have HY := hid (unhex_yes (unhex_half _ HEV.out HNB.out))
      have HT := hid (ownY_text HO.out)
      have hcv := HT.out
      clear hkl
      go_wp2
      go_ret2
      exact ⟨ret_hexE (by rw [HY.out.1]) HY.out.2.symm, HN.out⟩
end Go.Proofs.YtnflhjagmngimaaGreatDoor

namespace Go.Proofs.YtnflhjagmngimaaGreatDoor
set_option linter.unusedSimpArgs false
set_option linter.unusedVariables false
open Go.RowKit Go.Shelf

theorem portP_err {r : List UInt8} (h : ∀ v, Lib.atoiAll r ≠ .ok v) : portP r = none := by
  unfold portP
  split
  · next n q => exact absurd q (h n)
  · rfl
theorem portP_ok {r : List UInt8} {n : Int} (h : Lib.atoiAll r = .ok n) : portP r = if Lib.itoa n = r ∧ 1 ≤ n ∧ n ≤ 65535 then some n else none := by
  unfold portP
  rw [h]
theorem portP_val {r : List UInt8} {n : Int} (h : portP r = some n) : atoiV r = n := by
  cases ha : Lib.atoiAll r with
  | ok v =>
    rw [portP_ok ha] at h
    split at h
    · rw [atoi_ok ha]
      exact Option.some.inj h
    · cases h
  | _ => rw [portP_err (fun v => by rw [ha]; simp)] at h; cases h
theorem itoa_is (n : Int) (t : ByteArray) : ((itoaB n).toList == t.toList) = decide (Lib.itoa n = t.data.toList) := by
  rw [ByteArray.toList_eq, ByteArray.toList_eq, Bool.eq_iff_iff]
  simp [itoaB]
set_option maxRecDepth 100000 in
set_option maxHeartbeats 4000000 in
theorem k1_any (B : Nat) (p : Int) (v : Value) (ck nx rest : ByteArray) (ln : Int) (w0 w : World) (hv : VarsL w0) (hn0 : New w0 w) (hB0 : w0.heap.size ≤ B) (hB : Blk w B #[.int .i64 p, v, .string ck, .int .i64 ln, .string nx] 159) (hs : rest.size ≤ 65536) :
    Calls Tryz.prog 161 #[.pointer (some ⟨B, 0, none⟩), .string rest] w fun e w' => e = .returned (.bool (portP rest.data.toList).isSome) ∧ Blk w' B #[.int .i64 (atoiV rest.data.toList), v, .string ck, .int .i64 ln, .string ⟨#[78, 97, 109, 101, 58, 32]⟩] 159 ∧ Mod (fun k => k = B) w w' := by
  have HA := hid (atoi_full rest w (hv.new hn0) (by omega))
  have HIT := hid (fun (n : Int) (q0 : -9223372036854775808 ≤ n) (q1 : n ≤ 9223372036854775807) W (m : New w0 W) => itoa_any n q0 q1 W (hv.tab.new m))
  obtain ⟨bl, bu⟩ := atoi_inL (l := rest.data.toList)
  have HEQ := hid (fun n => itoa_is n rest)
  obtain ⟨n, hn⟩ : ∃ n, n = atoiV rest.data.toList := ⟨_, rfl⟩
  rw [← hn] at bl bu
  have HN0 := hid hn0
  have HB := hid hB
  have HNV := hid hn
  have HBI := hid hB0
  rw [← hn]
  clear hv hn0 hB hn hB0
  go_enter Tryz.func161, Tryz.ntmps161
  go_wp2_with fail
  refine HA.out.mono ?_
  intro e w1 ho
  obtain ⟨x, rfl, hx, n1⟩ := ho
  have N1 := hid n1
  have HB1 := hid (n1.blk HB.out)
  have d0 := HB1.out.cellv 0 rfl; have d4 := HB1.out.cellv 4 rfl; have dl := HB1.out.lt; have df := HB1.out.frz
  have HN2 : Hid (New w0 ((w1.setCell ⟨B, 0, none⟩ (.int .i64 n)).setCell ⟨B, 4, none⟩ (.string ⟨#[78, 97, 109, 101, 58, 32]⟩))) := hid (((HN0.out.trans n1).set _ _ (.inr HBI.out)).set _ _ (.inr HBI.out))
  have HBB := hid ((HB1.out.set 0 (.int .i64 n)).set 4 (.string ⟨#[78, 97, 109, 101, 58, 32]⟩))
  have HMM : Hid (Mod (fun k => k = B) w ((w1.setCell ⟨B, 0, none⟩ (.int .i64 n)).setCell ⟨B, 4, none⟩ (.string ⟨#[78, 97, 109, 101, 58, 32]⟩))) := hid (Mod.set (S := fun k => k = B) (Mod.set (S := fun k => k = B) n1.mod ⟨B, 0, none⟩ _ (.inl rfl)) ⟨B, 4, none⟩ _ (.inl rfl))
  clear n1
  rw [← HNV.out] at hx ⊢
  rcases hx with ⟨hok, rfl⟩ | ⟨hno, N, rfl⟩
  · have HP := hid (portP_ok hok)
    have HI := hid (HIT.out n bl bu _ HN2.out)
    have heq := HEQ.out n
    obtain ⟨I, hI⟩ : ∃ I, I = itoaB n := ⟨_, rfl⟩
    rw [← hI] at HI heq
    clear hok hI
    by_cases q0 : Lib.itoa n = rest.data.toList
    · rw [decide_eq_true q0] at heq
      have HQ := hid q0
      clear q0
      by_cases q1 : 1 ≤ n
      · by_cases q2 : n ≤ 65535
        · have HR := hid (show (portP rest.data.toList).isSome = true by rw [HP.out, if_pos ⟨HQ.out, q1, q2⟩]; rfl)
          go_wp2_with fail
          refine HI.out.mono ?_
          rintro e w3 ⟨rfl, n3⟩
          have N3 := hid n3
          clear n3
          go_wp2
          go_ret
          exact ⟨ret_bool (by first | exact HR.out.symm | (rw [HR.out]; simp; omega)), N3.out.blk HBB.out, HMM.out.trans N3.out.mod⟩
        · have HR := hid (show (portP rest.data.toList).isSome = false by rw [HP.out, if_neg (fun q => q2 q.2.2)]; rfl)
          go_wp2_with fail
          refine HI.out.mono ?_
          rintro e w3 ⟨rfl, n3⟩
          have N3 := hid n3
          clear n3
          go_wp2
          go_ret
          exact ⟨ret_bool (by first | exact HR.out.symm | (rw [HR.out]; simp; omega)), N3.out.blk HBB.out, HMM.out.trans N3.out.mod⟩
      · have HR := hid (show (portP rest.data.toList).isSome = false by rw [HP.out, if_neg (fun q => q1 q.2.1)]; rfl)
        go_wp2_with fail
        refine HI.out.mono ?_
        rintro e w3 ⟨rfl, n3⟩
        have N3 := hid n3
        clear n3
        go_wp2
        go_ret
        exact ⟨ret_bool (by first | exact HR.out.symm | (rw [HR.out]; simp; omega)), N3.out.blk HBB.out, HMM.out.trans N3.out.mod⟩
    · rw [decide_eq_false q0] at heq
      have HR := hid (show (portP rest.data.toList).isSome = false by rw [HP.out, if_neg (fun q => q0 q.1)]; rfl)
      clear q0
      go_wp2_with fail
      refine HI.out.mono ?_
      rintro e w3 ⟨rfl, n3⟩
      have N3 := hid n3
      clear n3
      go_wp2
      go_ret
      exact ⟨ret_bool (by first | exact HR.out.symm | (rw [HR.out]; simp; omega)), N3.out.blk HBB.out, HMM.out.trans N3.out.mod⟩
  · have HR := hid (show (portP rest.data.toList).isSome = false by rw [portP_err hno]; rfl)
    clear hno
    go_wp2
    go_ret
    exact ⟨ret_bool HR.out.symm, HBB.out, HMM.out⟩
set_option maxRecDepth 100000 in
set_option maxHeartbeats 4000000 in
theorem k3_any (B : Nat) (p : Int) (v : Value) (ck nx rest : ByteArray) (ln : Int) (w : World) (hB : Blk w B #[.int .i64 p, v, .string ck, .int .i64 ln, .string nx] 159) (hs : rest.size ≤ 65536) :
    Calls Tryz.prog 164 #[.pointer (some ⟨B, 0, none⟩), .string rest] w fun e w' => e = .returned (.bool (cookieOk rest)) ∧ Blk w' B #[.int .i64 p, v, .string rest, .int .i64 ln, .string ⟨#[]⟩] 159 ∧ Mod (fun k => k = B) w w' := by
  have HCK := hid (fun W => cookie_any rest W (by unfold maxLen; omega))
  have HB := hid hB
  have d2 := HB.out.cellv 2 rfl; have d4 := HB.out.cellv 4 rfl; have dl := HB.out.lt; have df := HB.out.frz
  have HBB := hid ((HB.out.set 2 (.string rest)).set 4 (.string ⟨#[]⟩))
  have HMM : Hid (Mod (fun k => k = B) w ((w.setCell ⟨B, 2, none⟩ (.string rest)).setCell ⟨B, 4, none⟩ (.string ⟨#[]⟩))) := hid (Mod.set (S := fun k => k = B) (Mod.set (S := fun k => k = B) (Mod.refl _ _) ⟨B, 2, none⟩ _ (.inl rfl)) ⟨B, 4, none⟩ _ (.inl rfl))
  clear hB
  go_enter Tryz.func164, Tryz.ntmps164
  go_wp2_with fail
  refine (HCK.out _).mono ?_
  rintro e w3 ⟨rfl, rfl⟩
  go_wp2
  go_ret
  exact ⟨rfl, HBB.out, HMM.out⟩
end Go.Proofs.YtnflhjagmngimaaGreatDoor

namespace Go.Proofs.YtnflhjagmngimaaGreatDoor
set_option linter.unusedSimpArgs false
set_option linter.unusedVariables false
open Go.ChangeShapes Go.WideShapes Go.Deep Go.RowKit
section
variable {H : Type} {enc : TypeId × Value → H} {P : Program} {w : World} {base : Nat} {spare : Nat → Bool} {held : Bool}
end
/-- As many things as there are places, one for each place. -/
theorem list_of {α : Type} {p : Nat → α → Prop} (n : Nat) (h : ∀ i, i < n → ∃ x, p i x) : ∃ l : List α, l.length = n ∧ ∀ i x, l[i]? = some x → p i x := by
  induction n with
  | zero => exact ⟨[], rfl, fun i x hx => by simp at hx⟩
  | succ n ih =>
    obtain ⟨l, hl, hp⟩ := ih (fun i hi => h i (by omega))
    obtain ⟨x, hx⟩ := h n (by omega)
    refine ⟨l ++ [x], by simp [hl], fun i y hy => ?_⟩
    by_cases hi : i < n
    · rw [List.getElem?_append_left (by omega)] at hy
      exact hp i y hy
    · have hlt : i < (l ++ [x]).length := (List.getElem?_eq_some_iff.1 hy).1
      simp at hlt
      have : i = n := by omega
      subst this
      rw [List.getElem?_append_right (by omega), hl] at hy
      simp at hy
      exact hy ▸ hx
theorem cell_spot {w : World} {a : Addr} {v : Value} (h : w.cell? a = some v) : a.spot = none := by
  unfold World.cell? at h
  split at h
  · split at h
    · cases h
    · next hs => cases hq : a.spot <;> simp_all
  · cases h
theorem add_none (b off i : Nat) : (⟨b, off, none⟩ : Addr).add i = ⟨b, off + i, none⟩ := by
  unfold Addr.add
  split
  · next h => subst h; rfl
  · rfl
end Go.Proofs.YtnflhjagmngimaaGreatDoor
