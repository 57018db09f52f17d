/-
  Several texts in one, in their build order. The walk of Parse of the reference. Conditions: the library's variables are as laid.
-/
import Derived.Test.YtnflhjagmngimaaGreatDoorM24
import Derived.Test.YtnflhjagmngimaaGreatDoorM25
import Derived.Laws.ResultCell
namespace Go.Proofs.YtnflhjagmngimaaGreatDoor
set_option linter.unusedSimpArgs false
set_option linter.unusedVariables false
open Go.RowKit Go.Shelf

theorem cutR_len (l : List UInt8) : (cutR l).length ≤ l.length := by
  unfold cutR Lib.cut
  split
  · simp only [List.length_drop]
    omega
  · simp
theorem cutL_any (s : ByteArray) (w : World) (hv : VarsL w) (hs : s.size ≤ 4000000) : Calls Tryz.prog 44 #[.string s, .string ⟨#[58, 32]⟩] w fun e w' => (∃ b, e = .returned (.tuple #[.string (mkB (cutW s.data.toList)), .string (mkB (cutR s.data.toList)), .bool b])) ∧ New w w' := by
  obtain ⟨m, hm⟩ := hv.max
  refine (Tryz.strings_Cut s ⟨#[58, 32]⟩ m w (by omega) hm).mono ?_
  rintro e w' ⟨rfl, n, rfl⟩
  exact ⟨⟨_, rfl⟩, (Mod.refl _ _).drewN n⟩
/-- What the reference's Parse answers. -/
def PqRes (t : ByteArray) (b : Nat) (e : Ending) (w' : World) : Prop := match parseQ t.data.toList with
  | some m => ∃ a c, e = .returned (.tuple #[msgV a c m, .int .i64 0]) ∧ StrsAt w' a c m.names ∧ ∀ x, a = some x → b ≤ x.block
  | none => e = .returned (.tuple #[msgV none 0 ⟨0, [], ⟨#[]⟩⟩, .int .i64 2])
/-- The message that the reference gathers lies in block B. -/
def MqAt (w : World) (B base : Nat) (q : MsgV) : Prop := ∃ v, Blk w B #[.int .i64 q.port, v, .string q.cookie] 34 ∧ OwnT w base v q.names
theorem rps_results (tmps : Array Value) (w : World) (p : Nat) (m0 m1 m2 x : Value) (hp : Blk w p #[m0, m1, m2] 34)
    (h2 : tmps.getD 2 undef = .pointer (some ⟨p, 0, none⟩)) (h3 : tmps.getD 3 undef = x) :
    (results Tryz.f11 tmps).run Tryz.prog w = .ok (.tuple #[.agg #[m0, m1, m2], x]) w := by
  have p0 := hp.cellv 0 rfl; have p1 := hp.cellv 1 rfl; have p2 := hp.cellv 2 rfl
  have h2' : tmps[2]?.getD undef = .pointer (some ⟨p, 0, none⟩) := by simpa using h2
  have h3' : tmps[3]?.getD undef = x := by simpa using h3
  simp [results, Tryz.results11, h2', h3', asAddr, go_sem, p0, p1, p2, Result.andThen]
set_option maxRecDepth 100000 in
set_option maxHeartbeats 2000000 in
theorem rParse_long (t : ByteArray) (w : World) (hs : 1400 < t.size) (h2 : t.size ≤ maxLen) :
    Calls Tryz.prog 11 #[.string t] w fun e w' => e = .returned (.tuple #[msgV none 0 ⟨0, [], ⟨#[]⟩⟩, .int .i64 3]) ∧ New w w' := by
  have hsI : (1400 : Int) < (t.size : Int) := by omega
  unfold maxLen at h2
  clear hs
  go_enter Tryz.func11, Tryz.ntmps11
  go_wp2
  refine bodyPost_ret (v := .tuple #[msgV none 0 ⟨0, [], ⟨#[]⟩⟩, .int .i64 3]) ?_ rfl ⟨rfl, ?_⟩
  · refine rps_results _ _ w.heap.size _ _ _ _ ?_ rfl rfl
    apply Blk.row
    · repeat (first | with_reducible exact Blk.new w _ _ | (with_reducible apply Blk.newAt; (simp; done)) | with_reducible apply Blk.alloc | with_reducible apply Blk.drew | with_reducible apply Blk.drewN | with_reducible apply Blk.set | (with_reducible apply Blk.other; · first | (simp; done) | (simp; omega) | omega) | (with_reducible apply Blk.putObj; · first | (simp; done) | (simp; omega) | omega))
    · rfl
  · repeat (first | with_reducible exact Mod.refl _ _ | with_reducible refine Mod.alloc ?_ _ | with_reducible refine Mod.drew ?_ | with_reducible refine Mod.drewN ?_ _ | (with_reducible refine Mod.set ?_ _ _ (by first | exact .inl rfl | (right; omega) | (right; simp; done) | (right; simp; omega) | (left; omega) | (left; simp; done) | (left; simp; omega))) | (with_reducible refine Mod.putObj ?_ _ _ (by first | exact .inl rfl | (right; omega) | (right; simp; done) | (right; simp; omega) | (left; omega) | (left; simp; done) | (left; simp; omega))))
set_option maxRecDepth 100000 in
set_option maxHeartbeats 4000000 in
theorem rParse_go (t : ByteArray) (w : World) (hv : VarsL w) (hs : t.size ≤ 1400) :
    Calls Tryz.prog 11 #[.string t] w fun e w' => PqRes t w.heap.size e w' ∧ New w w' := by
  have hsI : ¬ (1400 : Int) < (t.size : Int) := by omega
  have HSP := hid (fun W (n : New w W) => splitC_any t W (hv.new n) (by omega))
  have HSZ := hid (fun x (h : x ∈ linesT t) => linesT_size h)
  have HV := hid hv; have HSS := hid hs
  have hfo : foldQ t.data.toList = (linesT t).foldl (fun q x => stepQ q x.data.toList) msg0 := by
    unfold foldQ linesT
    rw [List.foldl_map]
    rfl
  have hll : (linesT t).length ≤ 1401 := by
    have hL : Lib.countB t ⟨#[13, 10]⟩ + 1 = (linesT t).length := by
      rw [← splitB_lines t, Lib.splitB_all ⟨#[13, 10]⟩ (by decide) 0 _ t rfl]
    have hle := Lib.countB_le ⟨#[13, 10]⟩ (by decide) t.size t (Nat.le_refl _)
    omega
  have hpos : 1 ≤ (linesT t).length := by
    rcases Nat.eq_zero_or_pos (linesT t).length with q | q
    · have := List.eq_nil_of_length_eq_zero q
      unfold linesT at this
      exact absurd (List.map_eq_nil_iff.1 this) (lines_ne _)
    · exact q
  obtain ⟨Lb, hLb⟩ : ∃ L, L = linesT t := ⟨_, rfl⟩
  rw [← hLb] at HSP HSZ hfo hll hpos
  have HFO := hid hfo
  clear hv hLb hs hfo
  obtain ⟨i1, hj, hy0, hy1, hy2⟩ := info_parts info_str
  go_enter Tryz.func11, Tryz.ntmps11
  go_wp2_with fail
  refine (HSP.out _ (((Mod.refl _ _).alloc _).alloc _)).mono ?_
  rintro e w1 ⟨rfl, s1, n1, z1⟩
  have N1 := hid n1
  have hz1 : w1.heap.size = w.heap.size + 3 := by simpa using z1
  have HR1 := hid (n1.blk ((Blk.new w #[.int .i64 0, .slice none 0 0, .string ⟨#[]⟩] 34).alloc _))
  have HM1 := hid (n1.blk (Blk.newAt (w := w.alloc (.cells #[.int .i64 0, .slice none 0 0, .string ⟨#[]⟩] 34)) (b := w.heap.size + 1) (cs := #[.int .i64 0, .slice none 0 0, .string ⟨#[]⟩]) (t := 34) (by simp)))
  have HNW : Hid (New w w1) := hid ((((Mod.refl _ w).alloc (.cells #[.int .i64 0, .slice none 0 0, .string ⟨#[]⟩] 34)).alloc (.cells #[.int .i64 0, .slice none 0 0, .string ⟨#[]⟩] 34)).trans n1)
  obtain ⟨b1, o1, hb1e, hb1, hc1⟩ := s1.get (by omega)
  injection hb1e with q1
  injection q1 with q2 q3
  subst q2 q3
  have HC1 := hid (fun (i : Nat) (hi : i < Lb.length) => show w1.cell? ⟨w.heap.size + 2, i, none⟩ = some (.string Lb[i]) by have := hc1 i hi; simpa using this)
  clear n1 s1 z1 hc1
  obtain ⟨N, hNN⟩ : ∃ N, N = Lb.length := ⟨_, rfl⟩
  rw [← hNN] at hll hpos ⊢
  have HNN := hid hNN
  clear hNN
  go_wp2_with fail
  go_loopw [19] (fun i wr => ∃ (k : Nat) (q : MsgV), i = .int .i64 k ∧ k ≤ N ∧ (Lb.drop k).foldl (fun q x => stepQ q x.data.toList) q = foldQ t.data.toList ∧ q.names.length ≤ k ∧ q.cookie.size ≤ 65536 ∧ (-9223372036854775808 ≤ q.port ∧ q.port ≤ 9223372036854775807) ∧ MqAt wr (w.heap.size + 1) (w.heap.size + 3) q ∧ Mod (fun j => j = w.heap.size + 1) w1 wr) (fun i _ => N - (intOf i).toNat)
  case atStart =>
    exact ⟨0, msg0, rfl, by omega, HFO.out.symm, by simp [msg0], Nat.zero_le _, by simp [msg0], ⟨.slice none 0 0, HM1.out, OwnT.nil _ _⟩, Mod.refl _ _⟩
  case round =>
    obtain ⟨k, q, rfl, hk, hfq, hql, hqc, hqp, ⟨v, hB, hO⟩, hn⟩ := hrel
    have HFQ := hid hfq; have HQL := hid hql; have HQC := hid hqc; have HQP := hid hqp; have HB := hid hB; have HO := hid hO; have HN := hid hn
    have HCL := hid (fun i (hi : i < Lb.length) => show wr.cell? ⟨w.heap.size + 2, i, none⟩ = some (.string Lb[i]) by
      have := HC1.out i hi
      have e : wr.heap[w.heap.size + 2]? = w1.heap[w.heap.size + 2]? := HN.out.block _ (by omega) (by omega)
      unfold World.cell? at this ⊢
      rw [e]
      exact this)
    clear hfq hB hO hn hqp
    by_cases hlt : k < N
    · have hltI : (k : Int) < (N : Int) := by omega
      have hkb : k < Lb.length := by have := HNN.out; omega
      have hcell := HCL.out k hkb
      have hxs := HSZ.out Lb[k] (List.getElem_mem _)
      have HST := hid (show (Lb.drop (k + 1)).foldl (fun q x => stepQ q x.data.toList) (stepQ q Lb[k].data.toList) = foldQ t.data.toList by
        rw [← HFQ.out, List.drop_eq_getElem_cons hkb, List.foldl_cons])
      obtain ⟨x, hx⟩ : ∃ x, x = Lb[k] := ⟨_, rfl⟩
      rw [← hx] at hcell hxs HST
      have HX := hid hxs
      have HSS1 := HSS.out
      have HNX : Hid (New w wr) := hid (HNW.out.trans' HN.out (fun j q1 q2 => by omega))
      have HCU := hid (cutL_any x wr (HV.out.new HNX.out) (by omega))
      have hrl := cutR_len x.data.toList
      have hxl : x.data.toList.length = x.size := by rw [Array.length_toList]; rfl
      have HSQ := hid (show stepQ q x.data.toList = if cutW x.data.toList = wPort then { q with port := atoiV (cutR x.data.toList) }
        else if cutW x.data.toList = wName then { q with names := addN q.names (unhexD (cutR x.data.toList)) }
        else if cutW x.data.toList = wCook then { q with cookie := ⟨(cutR x.data.toList).toArray⟩ } else q from rfl)
      obtain ⟨W, hW⟩ : ∃ W, W = mkB (cutW x.data.toList) := ⟨_, rfl⟩
      obtain ⟨R, hR⟩ : ∃ R, R = mkB (cutR x.data.toList) := ⟨_, rfl⟩
      have hWd : W.data.toList = cutW x.data.toList := by rw [hW]; rfl
      have hRd : R.data.toList = cutR x.data.toList := by rw [hR]; rfl
      have hRs : R.size ≤ 1400 := by rw [hR, mkB_size]; omega
      rw [← hW, ← hR] at HCU
      rw [← hWd, ← hRd] at HSQ
      have l1 := lit_eq W [80, 111, 114, 116]
      have l2 := lit_eq W [78, 97, 109, 101]
      have l3 := lit_eq W [67, 111, 111, 107, 105, 101]
      have HWE := hid (fun (l : List UInt8) => show W = ⟨l.toArray⟩ ↔ W.data.toList = l from ⟨fun q => by rw [q], fun q => ext_eq q⟩)
      clear hW hR hWd hRd hrl hxl hx hxs
      by_cases c1 : W.data.toList = wPort
      · rw [decide_eq_true (show W = ⟨#[80, 111, 114, 116]⟩ from (HWE.out wPort).2 c1)] at l1
        have HE := hid (show stepQ q x.data.toList = { q with port := atoiV R.data.toList } by rw [HSQ.out, if_pos c1])
        clear l2 l3 c1
        have HAT := hid (fun W (n : New w W) => atoi_full R W (HV.out.new n) (by omega))
        obtain ⟨bl, bu⟩ := atoi_inL (l := R.data.toList)
        obtain ⟨n, hn⟩ : ∃ n, n = atoiV R.data.toList := ⟨_, rfl⟩
        unfold AtoiR at HAT
        rw [← hn] at HE HAT bl bu
        clear hn
        go_wp2_with fail
        refine HCU.out.mono ?_
        rintro e w2 ⟨⟨b, rfl⟩, n2⟩
        have N2 := hid n2
        clear n2
        go_wp2_with fail
        refine (HAT.out _ (HNX.out.trans N2.out)).mono ?_
        rintro e w3 ⟨y, rfl, -, n3⟩
        have N3 : Hid (New wr w3) := hid (N2.out.trans n3)
        clear n3
        have HB3 := hid (New.blk N3.out HB.out)
        have d0 := HB3.out.cellv 0 rfl; have dl := HB3.out.lt; have df := HB3.out.frz
        have hMM : Mod (fun j => j = w.heap.size + 1) w3 (w3.setCell ⟨w.heap.size + 1, 0, none⟩ (.int .i64 n)) := Mod.set (S := fun j => j = w.heap.size + 1) (Mod.refl _ _) ⟨w.heap.size + 1, 0, none⟩ _ (.inl rfl)
        have HMM := hid hMM
        clear hMM
        go_wp2
        go_roundw
        case rel => exact ⟨k + 1, _, by simp, by omega, HST.out, by rw [HE.out]; (show q.names.length ≤ k + 1); omega, by rw [HE.out]; exact HQC.out, by rw [HE.out]; exact ⟨bl, bu⟩, by rw [HE.out]; exact ⟨v, HB3.out.set 0 _, (HO.out.new N3.out).mod HMM.out (fun j q1 _ q3 => by omega)⟩, HN.out.trans (N3.out.mod.trans HMM.out)⟩
        case measure => simp [intOf]; omega
      rw [decide_eq_false (show ¬ W = ⟨#[80, 111, 114, 116]⟩ from fun q => c1 ((HWE.out wPort).1 q))] at l1
      by_cases c2 : W.data.toList = wName
      · rw [decide_eq_true (show W = ⟨#[78, 97, 109, 101]⟩ from (HWE.out wName).2 c2)] at l2
        have HE := hid (show stepQ q x.data.toList = { q with names := addN q.names (unhexD R.data.toList) } by rw [HSQ.out, if_neg c1, if_pos c2])
        clear l3 c1 c2
        have HFX := hid (fun W => rfromHex_any R W (by omega))
        have hub : (⟨(unhexB R.data.toList).toArray⟩ : ByteArray).size ≤ maxLen := by
          have := unhexB_len R.data.toList
          have e : R.data.toList.length = R.size := by rw [Array.length_toList]; rfl
          show (unhexB R.data.toList).toArray.size ≤ _
          unfold maxLen
          simp
          omega
        obtain ⟨U, hU⟩ : ∃ U : ByteArray, U = ⟨(unhexB R.data.toList).toArray⟩ := ⟨_, rfl⟩
        obtain ⟨E, hE⟩ : ∃ E, E = unhexE R.data.toList := ⟨_, rfl⟩
        have hadd : addN q.names (unhexD R.data.toList) = q.names ++ [U] := by rw [hU]; rfl
        rw [hadd] at HE
        rw [← hU] at HFX hub
        rw [← hE] at HFX
        have HUB := hid hub
        clear hU hE hadd hub
        go_wp2_with fail
        refine HCU.out.mono ?_
        rintro e w2 ⟨⟨b, rfl⟩, n2⟩
        have N2 := hid n2
        clear n2
        go_wp2_with fail
        refine (HFX.out _).mono ?_
        rintro e w3 ⟨rfl, n3⟩
        have N3 : Hid (New wr w3) := hid (N2.out.trans n3)
        have hz3 := N3.out.size
        have hz2 := HN.out.size
        clear n3
        have HB3 := hid (New.blk N3.out HB.out)
        have HO3 := hid (HO.out.new N3.out)
        have d1 := HB3.out.cellv 1 rfl; have dl := HB3.out.lt; have df := HB3.out.frz
        go_wp2_with (at_builtin; refine wpList_append_own_at _ rfl _ _ 22 rfl (w.heap.size + 3) 9 i1 _ 1 16 Tryz.underlying22 hj hy0 hy1 hy2 rfl (by decide) v q.names.length (q.names.map Value.string) rfl ?ow ⟨w3.heap.size, 0, none⟩ 1 1 [.string U] rfl rfl ?hn ?h1 ?h63 ?hby ?hba ?_)
        case ow => exact (HO3.out.new ((Mod.refl _ _).alloc _)).row
        case hn =>
          intro j u hj
          rw [add_none]
          match j, hj with
          | 0, hj => simp at hj; subst hj; exact (Blk.newAt (by simp)).cellv 0 rfl
        case h1 => intro u hu; simp at hu; subst hu; rfl
        case h63 => unfold maxLen; omega
        case hby => omega
        case hba => simp; omega
        intro o3 w4 r4 g4 _ _
        have O4 : Hid (OwnT w4 (w.heap.size + 3) o3 (q.names ++ [U])) := hid (ownT_of HO3.out.small HUB.out r4)
        have M4 : Hid (Mod (fun k => w.heap.size + 3 ≤ k) w3 w4) := hid (mod_grownT (HO3.out.new ((Mod.refl _ _).alloc _)) (Nat.le_refl _) ((Mod.refl _ _).alloc _) g4)
        have HB4 := hid (M4.out.blk HB3.out (by omega))
        obtain ⟨L, hL⟩ : ∃ L, L = q.names ++ [U] := ⟨_, rfl⟩
        rw [← hL] at O4 HE
        have hLl : L.length = q.names.length + 1 := by rw [hL]; simp
        clear r4 g4 d1 dl df hL
        obtain ⟨a5, c5, rfl, hs5, hb5⟩ := O4.out.strs
        clear hs5 hb5
        have d1 := HB4.out.cellv 1 rfl; have dl := HB4.out.lt; have df := HB4.out.frz
        have hMM : Mod (fun j => j = w.heap.size + 1) w4 (w4.setCell ⟨w.heap.size + 1, 1, none⟩ (.slice a5 L.length c5)) := Mod.set (S := fun j => j = w.heap.size + 1) (Mod.refl _ _) ⟨w.heap.size + 1, 1, none⟩ _ (.inl rfl)
        have HMM := hid hMM
        clear hMM
        have HMT : Hid (Mod (fun j => j = w.heap.size + 1) w1 (w4.setCell ⟨w.heap.size + 1, 1, none⟩ (.slice a5 L.length c5))) := hid ((((HN.out.trans N3.out.mod).trans' M4.out (fun j q1 q2 => by omega)).trans HMM.out))
        have HLL := hid hLl
        clear hLl
        go_wp2
        go_roundw
        case rel => exact ⟨k + 1, _, by simp, by omega, HST.out, by rw [HE.out]; have := HLL.out; (show L.length ≤ k + 1); omega, by rw [HE.out]; exact HQC.out, by rw [HE.out]; exact HQP.out, by rw [HE.out]; exact ⟨_, HB4.out.set 1 _, O4.out.mod HMM.out (fun j q1 _ q3 => by omega)⟩, HMT.out⟩
        case measure => simp [intOf]; omega
      rw [decide_eq_false (show ¬ W = ⟨#[78, 97, 109, 101]⟩ from fun q => c2 ((HWE.out wName).1 q))] at l2
      by_cases c3 : W.data.toList = wCook
      · rw [decide_eq_true (show W = ⟨#[67, 111, 111, 107, 105, 101]⟩ from (HWE.out wCook).2 c3)] at l3
        have HE := hid (show stepQ q x.data.toList = { q with cookie := R } by
          rw [HSQ.out, if_neg c1, if_neg c2, if_pos c3])
        clear c1 c2 c3
        go_wp2_with fail
        refine HCU.out.mono ?_
        rintro e w2 ⟨⟨b, rfl⟩, n2⟩
        have N2 := hid n2
        clear n2
        have HB3 := hid (New.blk N2.out HB.out)
        have d2 := HB3.out.cellv 2 rfl; have dl := HB3.out.lt; have df := HB3.out.frz
        have hMM : Mod (fun j => j = w.heap.size + 1) w2 (w2.setCell ⟨w.heap.size + 1, 2, none⟩ (.string R)) := Mod.set (S := fun j => j = w.heap.size + 1) (Mod.refl _ _) ⟨w.heap.size + 1, 2, none⟩ _ (.inl rfl)
        have HMM := hid hMM
        clear hMM
        go_wp2
        go_roundw
        case rel => exact ⟨k + 1, _, by simp, by omega, HST.out, by rw [HE.out]; (show q.names.length ≤ k + 1); omega, by rw [HE.out]; (show R.size ≤ 65536); omega, by rw [HE.out]; exact HQP.out, by rw [HE.out]; exact ⟨v, HB3.out.set 2 _, (HO.out.new N2.out).mod HMM.out (fun j q1 _ q3 => by omega)⟩, HN.out.trans (N2.out.mod.trans HMM.out)⟩
        case measure => simp [intOf]; omega
      · rw [decide_eq_false (show ¬ W = ⟨#[67, 111, 111, 107, 105, 101]⟩ from fun q => c3 ((HWE.out wCook).1 q))] at l3
        have HE := hid (show stepQ q x.data.toList = q by rw [HSQ.out, if_neg c1, if_neg c2, if_neg c3])
        clear c1 c2 c3
        go_wp2_with fail
        refine HCU.out.mono ?_
        rintro e w2 ⟨⟨b, rfl⟩, n2⟩
        have N2 := hid n2
        clear n2
        go_wp2
        go_roundw
        case rel => exact ⟨k + 1, _, by simp, by omega, HST.out, by rw [HE.out]; omega, by rw [HE.out]; exact HQC.out, by rw [HE.out]; exact HQP.out, by rw [HE.out]; exact ⟨v, New.blk N2.out HB.out, HO.out.new N2.out⟩, HN.out.trans N2.out.mod⟩
        case measure => simp [intOf]; omega
    · obtain rfl : k = N := by omega
      have HQQ := hid (show q = foldQ t.data.toList by
        rw [← HFQ.out, List.drop_of_length_le (by have := HNN.out; omega)]
        rfl)
      have HNX : Hid (New w wr) := hid (HNW.out.trans' HN.out (fun j q1 q2 => by omega))
      have HRX := hid (HN.out.blk HR1.out (by omega))
      obtain ⟨av, cv, rfl, hst, hbv⟩ := HO.out.strs
      have HMA : Hid (MsgAt wr av cv q) := hid ⟨HQP.out, hst, by have := HQC.out; unfold maxLen; omega⟩
      have HST := hid hst; have HBV := hid hbv
      have HVL := hid (fun W (n : New wr W) => rValid_any q av cv W (HMA.out.new n) (HV.out.tab.new (HNX.out.trans n)))
      have HTX := hid (fun (h : validM q = true) W (n : New wr W) => text_any q av cv W h (HST.out.new n) (HV.out.tab.new (HNX.out.trans n)))
      unfold msgV at HVL
      clear hst hbv
      have d0 := HB.out.cellv 0 rfl; have d1 := HB.out.cellv 1 rfl; have d2 := HB.out.cellv 2 rfl; have dl := HB.out.lt
      cases hv : validM q with
      | false =>
        rw [hv] at HVL
        have HP := hid (show parseQ t.data.toList = none by
          unfold parseQ
          rw [← HQQ.out, if_neg (fun z => by rw [hv] at z; cases z.1)])
        clear hv
        go_wp2_with fail
        refine (HVL.out _ (Mod.refl _ _)).mono ?_
        rintro e w2 ⟨rfl, n2⟩
        have N2 := hid n2
        clear n2
        have HR2 := hid (New.blk N2.out HRX.out)
        have g0 := HR2.out.cellv 0 rfl; have g1 := HR2.out.cellv 1 rfl; have g2 := HR2.out.cellv 2 rfl; have g3 := HR2.out.lt; have g4 := HR2.out.frz
        go_wp2
        refine bodyPost_ret (v := .tuple #[msgV none 0 ⟨0, [], ⟨#[]⟩⟩, .int .i64 2]) ?_ rfl ⟨?_, ?_⟩
        · refine rps_results _ _ w.heap.size _ _ _ _ ?_ rfl rfl
          apply Blk.row
          · repeat (first | with_reducible exact HR2.out | (with_reducible apply Blk.newAt; (simp; done)) | with_reducible apply Blk.alloc | with_reducible apply Blk.drew | with_reducible apply Blk.drewN | with_reducible apply Blk.set | (with_reducible apply Blk.other; · first | (simp; done) | (simp; omega) | omega) | (with_reducible apply Blk.putObj; · first | (simp; done) | (simp; omega) | omega))
          · rfl
        · unfold PqRes
          rw [HP.out]
        · exact ((((HNX.out.trans N2.out).set ⟨w.heap.size, 0, none⟩ _ (.inr (Nat.le_refl _))).set ⟨w.heap.size, 1, none⟩ _ (.inr (Nat.le_refl _))).set ⟨w.heap.size, 2, none⟩ _ (.inr (Nat.le_refl _)))
      | true =>
        rw [hv] at HVL
        have HTX := hid (HTX.out hv)
        have HVT := hid hv
        clear hv
        obtain ⟨X, hX⟩ : ∃ X, X = mkB (writtenL q) := ⟨_, rfl⟩
        rw [← hX] at HTX
        have HXX := hid hX
        have hte := two_eq X t
        clear hX
        by_cases hxt : X = t
        · rw [decide_eq_true hxt] at hte
          have hne : (X.toList != t.toList) = false := by rw [bne, hte]; rfl
          have HP := hid (show parseQ t.data.toList = some q by
            unfold parseQ
            rw [← HQQ.out, if_pos ⟨HVT.out, by rw [← hxt, HXX.out, mkB_list]⟩])
          clear hxt hne
          go_wp2_with fail
          refine (HVL.out _ (Mod.refl _ _)).mono ?_
          rintro e w2 ⟨rfl, n2⟩
          have N2 := hid n2
          clear n2
          have HB2 := hid (New.blk N2.out HB.out)
          have d0 := HB2.out.cellv 0 rfl; have d1 := HB2.out.cellv 1 rfl; have d2 := HB2.out.cellv 2 rfl; have dl := HB2.out.lt
          go_wp2_with fail
          refine (HTX.out _ N2.out).mono ?_
          rintro e w3 ⟨rfl, n3⟩
          have N3 : Hid (New wr w3) := hid (N2.out.trans n3)
          clear n3 d0 d1 d2 dl
          have HB3 := hid (New.blk N3.out HB.out)
          have HR2 := hid (New.blk N3.out HRX.out)
          have d0 := HB3.out.cellv 0 rfl; have d1 := HB3.out.cellv 1 rfl; have d2 := HB3.out.cellv 2 rfl; have dl := HB3.out.lt
          have g0 := HR2.out.cellv 0 rfl; have g1 := HR2.out.cellv 1 rfl; have g2 := HR2.out.cellv 2 rfl; have g3 := HR2.out.lt; have g4 := HR2.out.frz
          go_wp2
          refine bodyPost_ret (v := .tuple #[msgV av cv q, .int .i64 0]) ?_ rfl ⟨?_, ?_⟩
          · refine rps_results _ _ w.heap.size _ _ _ _ ?_ rfl rfl
            apply Blk.row
            · repeat (first | with_reducible exact HR2.out | (with_reducible apply Blk.newAt; (simp; done)) | with_reducible apply Blk.alloc | with_reducible apply Blk.drew | with_reducible apply Blk.drewN | with_reducible apply Blk.set | (with_reducible apply Blk.other; · first | (simp; done) | (simp; omega) | omega) | (with_reducible apply Blk.putObj; · first | (simp; done) | (simp; omega) | omega))
            · rfl
          · unfold PqRes
            rw [HP.out]
            refine ⟨av, cv, rfl, (HST.out.new N3.out).far (S := fun j => j = w.heap.size) ?_ (fun x hx q => by have := (HBV.out x hx).1; omega), fun x hx => by have := (HBV.out x hx).1; omega⟩
            exact (Mod.set (S := fun j => j = w.heap.size) (Mod.set (S := fun j => j = w.heap.size) (Mod.set (S := fun j => j = w.heap.size) (Mod.refl _ _) ⟨w.heap.size, 0, none⟩ _ (.inl rfl)) ⟨w.heap.size, 1, none⟩ _ (.inl rfl)) ⟨w.heap.size, 2, none⟩ _ (.inl rfl))
          · exact ((((HNX.out.trans N3.out).set ⟨w.heap.size, 0, none⟩ _ (.inr (Nat.le_refl _))).set ⟨w.heap.size, 1, none⟩ _ (.inr (Nat.le_refl _))).set ⟨w.heap.size, 2, none⟩ _ (.inr (Nat.le_refl _)))
        · rw [decide_eq_false hxt] at hte
          have hne : (X.toList != t.toList) = true := by rw [bne, hte]; rfl
          have HP := hid (show parseQ t.data.toList = none by
            unfold parseQ
            rw [← HQQ.out, if_neg (fun z => hxt (by
              rw [HXX.out, ← z.2]
              exact mkB_data t))])
          clear hxt hne
          go_wp2_with fail
          refine (HVL.out _ (Mod.refl _ _)).mono ?_
          rintro e w2 ⟨rfl, n2⟩
          have N2 := hid n2
          clear n2
          have HB2 := hid (New.blk N2.out HB.out)
          have d0 := HB2.out.cellv 0 rfl; have d1 := HB2.out.cellv 1 rfl; have d2 := HB2.out.cellv 2 rfl; have dl := HB2.out.lt
          go_wp2_with fail
          refine (HTX.out _ N2.out).mono ?_
          rintro e w3 ⟨rfl, n3⟩
          have N3 : Hid (New wr w3) := hid (N2.out.trans n3)
          clear n3 d0 d1 d2 dl
          have HR2 := hid (New.blk N3.out HRX.out)
          have g0 := HR2.out.cellv 0 rfl; have g1 := HR2.out.cellv 1 rfl; have g2 := HR2.out.cellv 2 rfl; have g3 := HR2.out.lt; have g4 := HR2.out.frz
          go_wp2
          refine bodyPost_ret (v := .tuple #[msgV none 0 ⟨0, [], ⟨#[]⟩⟩, .int .i64 2]) ?_ rfl ⟨?_, ?_⟩
          · refine rps_results _ _ w.heap.size _ _ _ _ ?_ rfl rfl
            apply Blk.row
            · repeat (first | with_reducible exact HR2.out | (with_reducible apply Blk.newAt; (simp; done)) | with_reducible apply Blk.alloc | with_reducible apply Blk.drew | with_reducible apply Blk.drewN | with_reducible apply Blk.set | (with_reducible apply Blk.other; · first | (simp; done) | (simp; omega) | omega) | (with_reducible apply Blk.putObj; · first | (simp; done) | (simp; omega) | omega))
            · rfl
          · unfold PqRes
            rw [HP.out]
          · exact ((((HNX.out.trans N3.out).set ⟨w.heap.size, 0, none⟩ _ (.inr (Nat.le_refl _))).set ⟨w.heap.size, 1, none⟩ _ (.inr (Nat.le_refl _))).set ⟨w.heap.size, 2, none⟩ _ (.inr (Nat.le_refl _)))
end Go.Proofs.YtnflhjagmngimaaGreatDoor
