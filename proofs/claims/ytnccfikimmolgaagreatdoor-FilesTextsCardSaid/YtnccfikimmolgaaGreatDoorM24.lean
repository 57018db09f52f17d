/-
  Several texts in one, in their build order. The walks of the reference's Path and Format. Conditions: the lists lie as told; a path's text fits.
-/
import Derived.Test.YtnccfikimmolgaaGreatDoorM23
import Derived.Test.YtnccfikimmolgaaGreatDoorM15
namespace Go.Proofs.YtnccfikimmolgaaGreatDoor
set_option linter.unusedSimpArgs false
set_option linter.unusedVariables false
open Go.RowKit Go.Shelf

theorem joinTail_snoc (r : List (List UInt8)) (y : List UInt8) : Lib.joinTail [47] (r ++ [y]) = Lib.joinTail [47] r ++ 47 :: y := by simp [Lib.joinTail]
theorem join_next {p : List ByteArray} {k : Nat} (h : k < p.length) : (joinB (p.take (k + 1))).data.toList = (joinB (p.take k)).data.toList ++ (if 0 < k then [47] else []) ++ p[k].data.toList := by
  have e : ∀ q : List ByteArray, (joinB q).data.toList = Lib.join (q.map (·.data.toList)) [47] := fun _ => rfl
  rw [e, e, List.take_succ_eq_append_getElem h, List.map_append]
  cases hq : p.take k with
  | nil =>
    have hk : k = 0 := by
      have : (p.take k).length = 0 := by rw [hq]; rfl
      rw [List.length_take] at this
      omega
    subst hk
    simp [Lib.join]
  | cons x r =>
    have hk : 0 < k := by
      have : (p.take k).length = r.length + 1 := by rw [hq]; rfl
      rw [List.length_take] at this
      omega
    rw [if_pos hk]
    simp only [List.map_cons, List.map_nil, List.cons_append]
    rw [Lib.join_cons, Lib.join_cons, joinTail_snoc]
    simp
theorem join_pre (p : List ByteArray) : ∀ k, (joinB (p.take k)).size ≤ (joinB p).size := by
  have hs : ∀ q : List ByteArray, (joinB q).size = (joinB q).data.toList.length := fun q => by rw [Array.length_toList]; rfl
  have step : ∀ k, (joinB (p.take k)).size ≤ (joinB (p.take (k + 1))).size := by
    intro k
    by_cases h : k < p.length
    · rw [hs, hs, join_next h]
      simp only [List.length_append]
      omega
    · rw [List.take_of_length_le (by omega), List.take_of_length_le (by omega)]
      exact Nat.le_refl _
  have up : ∀ d k, (joinB (p.take k)).size ≤ (joinB (p.take (k + d))).size := by
    intro d
    induction d with
    | zero => intro k; exact Nat.le_refl _
    | succ d ih => intro k; exact Nat.le_trans (ih k) (step (k + d))
  intro k
  by_cases h : k ≤ p.length
  · have := up (p.length - k) k
    rw [show k + (p.length - k) = p.length by omega, List.take_length] at this
    exact this
  · rw [List.take_of_length_le (by omega)]
    exact Nat.le_refl _
theorem join_part {p : List ByteArray} {k : Nat} (h : k < p.length) : (joinB (p.take k)).size + (if 0 < k then 1 else 0) + p[k].size ≤ (joinB p).size := by
  have hs : ∀ q : ByteArray, q.size = q.data.toList.length := fun q => by rw [Array.length_toList]; rfl
  have h1 := join_pre p (k + 1)
  have h2 := congrArg List.length (join_next h)
  rw [List.length_append, List.length_append, ← hs, ← hs, ← hs] at h2
  split
  · next q => rw [if_pos q] at h2; simp at h2; omega
  · next q => rw [if_neg q] at h2; simp at h2; omega
set_option maxRecDepth 100000 in
set_option maxHeartbeats 2000000 in
theorem rPath_any (a : Option Addr) (c : Nat) (p : List ByteArray) (w : World) (h : StrsAt w a c p) (hb : (joinB p).size ≤ 140737488355328) :
    Calls Tryz.prog 26 #[.slice a p.length c] w fun e w' => e = .returned (.string (joinB p)) ∧ w = w' := by
  have hr := h.room; have hc := h.cap
  unfold maxLen at hc
  have HST := hid h
  clear h
  go_enter Tryz.func26, Tryz.ntmps26
  go_wp2
  go_loop [8, 3] (fun x s => ∃ (k : Nat) (o : ByteArray), x = .int .i64 k ∧ s = .string o ∧ k ≤ p.length ∧ o.data.toList = (joinB (p.take k)).data.toList) (fun x _ => p.length - (intOf x).toNat)
  case atStart => exact ⟨0, ⟨#[]⟩, rfl, rfl, by omega, rfl⟩
  case round =>
    obtain ⟨k, o, rfl, rfl, hk, ho⟩ := hrel
    have hos : o.size = (joinB (p.take k)).size := by
      have := congrArg List.length ho
      rw [Array.length_toList, Array.length_toList] at this
      exact this
    have HO := hid ho
    clear ho
    by_cases hlt : k < p.length
    · obtain ⟨b1, o1, rfl, hb1, hc1⟩ := HST.out.get (by omega)
      have g0 := hc1 k hlt
      have HN := hid (join_next hlt)
      have hp := join_part hlt
      obtain ⟨t, ht⟩ : ∃ t, t = p[k] := ⟨_, rfl⟩
      rw [← ht] at g0 HN hp
      rw [← hos] at hp
      have hkI : (k : Int) < (p.length : Int) := by omega
      clear hc1 ht hos
      by_cases h0 : 0 < k
      · rw [if_pos h0] at HN hp
        have h0I : (0 : Int) < (k : Int) := by omega
        have hq : (⟨#[47]⟩ : ByteArray).size = 1 := rfl
        have hadd1 : ∀ w, (Op.stringOp .add o ⟨#[47]⟩).run Tryz.prog w = .ok (.string (o ++ ⟨#[47]⟩)) w := fun w => run_string_add_sum (w := w) _ _ (by omega)
        have hadd2 : ∀ w, (Op.stringOp .add (o ++ ⟨#[47]⟩) t).run Tryz.prog w = .ok (.string (o ++ ⟨#[47]⟩ ++ t)) w := fun w => run_string_add_sum (w := w) _ _ (by rw [ByteArray.size_append]; omega)
        clear hq hp
        go_wp2
        clear hadd1 hadd2
        go_round
        case rel => exact ⟨k + 1, o ++ ⟨#[47]⟩ ++ t, by simp, rfl, by omega, by rw [HN.out, ← HO.out]; simp⟩
        case measure => simp [intOf]; omega
      · rw [if_neg h0] at HN hp
        have hadd2 : ∀ w, (Op.stringOp .add o t).run Tryz.prog w = .ok (.string (o ++ t)) w := fun w => run_string_add_sum (w := w) _ _ (by omega)
        clear hp
        go_wp2
        clear hadd2
        go_round
        case rel => exact ⟨k + 1, o ++ t, by simp, rfl, by omega, by rw [HN.out, ← HO.out]; simp⟩
        case measure => simp [intOf]; omega
    · have hkl : p.take k = p := List.take_of_length_le (by omega)
      rw [hkl] at HO
      clear hos hkl
      go_wp2
      go_ret
      exact ⟨ret_str (bytes_ext HO.out), rfl⟩
/-- What the walk of a line needs of the world, without a builder. -/
structure Fq (w Q : World) (xb : Nat) (pa : Option Addr) (pc : Nat) (f : FileV) (pv : Bool) : Prop where
  n : New w Q
  x : Blk Q xb #[.slice pa f.path.length pc, .int .i64 f.len, .bool pv] 51
theorem Fq.new {w Q Q' : World} {xb : Nat} {pa : Option Addr} {pc : Nat} {f : FileV} {pv : Bool} (h : Fq w Q xb pa pc f pv) (n : New Q Q') : Fq w Q' xb pa pc f pv := ⟨h.n.trans n, n.blk h.x⟩
theorem Fq.drew {w Q : World} {xb : Nat} {pa : Option Addr} {pc : Nat} {f : FileV} {pv : Bool} (h : Fq w Q xb pa pc f pv) : Fq w Q.drew xb pa pc f pv := h.new (Mod.drew (Mod.refl _ _))
theorem Fq.cells {w Q : World} {xb : Nat} {pa : Option Addr} {pc : Nat} {f : FileV} {pv : Bool} (h : Fq w Q xb pa pc f pv) : Q.cell? ⟨xb, 0, none⟩ = some (.slice pa f.path.length pc) ∧ Q.cell? ⟨xb, 1, none⟩ = some (.int .i64 f.len) := ⟨h.x.cellv 0 rfl, h.x.cellv 1 rfl⟩
theorem add_bytes' (a b : ByteArray) : (a ++ b).data.toList = a.data.toList ++ b.data.toList := by simp
set_option maxRecDepth 100000 in
set_option maxHeartbeats 4000000 in
theorem rFormat_any (a : Option Addr) (c : Nat) (l : List FileV) (w : World) (h : FilesAt w a c l) :
    Calls Tryz.prog 24 #[.slice a l.length c] w fun e w' => e = .returned (.string ⟨(fmtOf l).toArray⟩) ∧ New w w' := by
  cases hv : validOf l with
  | false =>
    have HV := hid (hv ▸ rvalid_any a c l w h : Calls Tryz.prog 40 #[.slice a l.length c] w fun e w' => e = .returned (.bool false) ∧ New w w')
    have e : fmtOf l = [] := by simp [fmtOf, hv]
    rw [e]
    clear h hv e
    go_enter Tryz.func24, Tryz.ntmps24
    go_wp2_with fail
    refine HV.out.mono ?_
    rintro e w1 ⟨rfl, n1⟩
    have N1 := hid n1
    clear n1
    go_wp2
    go_ret
    exact ⟨rfl, N1.out⟩
  | true =>
    have HV := hid (hv ▸ rvalid_any a c l w h : Calls Tryz.prog 40 #[.slice a l.length c] w fun e w' => e = .returned (.bool true) ∧ New w w')
    have hgd := good_of hv
    obtain ⟨v1, v2, -, -⟩ := valid_facts hv
    have e : fmtOf l = l.flatMap fmtLine := by simp [fmtOf, hv]
    rw [e]
    have hr := h.room; have hc := h.cap
    unfold maxLen at hc
    obtain ⟨b1, o1, rfl, hb1, hc1⟩ := h.get (by omega)
    have HC1 := hid hc1; have HGD := hid hgd
    obtain ⟨X, hX⟩ : ∃ X, X = l.flatMap fmtLine := ⟨_, rfl⟩
    rw [← hX]
    have HX := hid hX
    clear h hv e hc1 hgd hX
    go_enter Tryz.func24, Tryz.ntmps24
    go_wp2_with fail
    refine HV.out.mono ?_
    rintro e w1 ⟨rfl, n1⟩
    have N1 := hid n1
    clear n1
    go_wp2
    go_loopw [11, 3] (fun x s wr => ∃ (j : Nat) (o : ByteArray), x = .int .i64 j ∧ s = .string o ∧ j ≤ l.length ∧ o.data.toList = (l.take j).flatMap fmtLine ∧ New w wr) (fun x _ _ => l.length - (intOf x).toNat)
    case atStart => exact ⟨0, ⟨#[]⟩, rfl, rfl, by omega, rfl, N1.out⟩
    case round =>
      clear N1
      obtain ⟨j, o, rfl, rfl, hj, ho, hn⟩ := hrel
      have HN := hid hn
      by_cases hlt : j < l.length
      · obtain ⟨pa, pc, d0, d1, d2, hst, -⟩ := HC1.out j hlt
        have d0 := hn.cellv d0; have d1 := hn.cellv d1; have d2 := hn.cellv d2
        have HNX := hid (fmt_next hlt)
        have hgd := HGD.out _ (List.getElem_mem hlt)
        have hacc := fmt_len (l := l.take j) (fun f hf => HGD.out f (List.mem_of_mem_take hf))
        rw [List.length_take, ← ho] at hacc
        have hos : o.data.toList.length = o.size := by rw [Array.length_toList]; rfl
        have hbw1 : b1 < wr.heap.size := by have := hn.size; omega
        have hjI : (j : Int) < (l.length : Int) := by omega
        obtain ⟨f, hf⟩ : ∃ f, f = l[j] := ⟨_, rfl⟩
        rw [← hf] at d0 d1 d2 hst HNX hgd
        rw [← ho] at HNX
        have hacc2 : o.size ≤ 20000 := by omega
        obtain ⟨g1, g2, g3, g4, g5⟩ := hgd
        have HST := hid hst
        rw [tailLine_data] at HNX
        clear ho hn hf hacc hst g5 hos
        obtain ⟨xb, hxb⟩ : ∃ xb, xb = wr.heap.size := ⟨_, rfl⟩
        have HIT := hid (fun W => decimal_any f.len (by omega) (by omega) W)
        have HPT := hid (fun W (n : New w W) => rPath_any pa pc f.path W (HST.out.new n) (by omega))
        have hz1 := itoa_size (n := f.len) (by omega) (by omega)
        have hts : (tailLine f).size ≤ 400 := by
          unfold tailLine
          simp only [ByteArray.size_append]
          have q1 : (⟨#[32]⟩ : ByteArray).size = 1 := rfl
          have q2 : (⟨#[10]⟩ : ByteArray).size = 1 := rfl
          omega
        have HTL := hid (show o.size + 1 + (tailLine f).size ≤ 140737488355328 by omega)
        have HTL2 := hid (show (⟨#[42]⟩ : ByteArray).size = 1 from rfl)
        have hq1 : (⟨#[32]⟩ : ByteArray).size = 1 := rfl
        have hq2 : (⟨#[10]⟩ : ByteArray).size = 1 := rfl
        have hadd1 : ∀ w, (Op.stringOp .add (itoaB f.len) ⟨#[32]⟩).run Tryz.prog w = .ok (.string (itoaB f.len ++ ⟨#[32]⟩)) w := fun w => run_string_add_sum (w := w) _ _ (by omega)
        have hadd2 : ∀ w, (Op.stringOp .add (itoaB f.len ++ ⟨#[32]⟩) (joinB f.path)).run Tryz.prog w = .ok (.string (itoaB f.len ++ ⟨#[32]⟩ ++ joinB f.path)) w := fun w => run_string_add_sum (w := w) _ _ (by rw [ByteArray.size_append]; omega)
        have hadd3 : ∀ w, (Op.stringOp .add (itoaB f.len ++ ⟨#[32]⟩ ++ joinB f.path) ⟨#[10]⟩).run Tryz.prog w = .ok (.string (tailLine f)) w := fun w => run_string_add_sum (w := w) _ _ (by rw [ByteArray.size_append, ByteArray.size_append]; omega)
        clear hq1 hq2 hz1 hts
        cases hp : f.pad with
        | false =>
          rw [hp] at d2
          rw [hp, if_neg (by decide), List.nil_append] at HNX
          have K0 : Hid (Fq w (wr.alloc (.cells #[.slice pa f.path.length pc, .int .i64 f.len, .bool false] 51)) xb pa pc f false) := hid ⟨HN.out.alloc _, by rw [hxb]; exact Blk.new _ _ _⟩
          clear hp
          go_wp2
          rw [← hxb]
          clear hxb
          have hadd4 : ∀ w, (Op.stringOp .add (o) (tailLine f)).run Tryz.prog w = .ok (.string ((o) ++ tailLine f)) w := fun w => run_string_add_sum (w := w) _ _ (by have := HTL.out; have := HTL2.out; first | omega | (rw [ByteArray.size_append]; omega))
          go_region_held3 (fun w' => w'.cell? ⟨xb, 0, none⟩ = some (.slice pa f.path.length pc) ∧ w'.cell? ⟨xb, 1, none⟩ = some (.int .i64 f.len)) ((first | exact KP.out.cells | exact KI.out.cells | exact K0.out.drew.cells | go_keep)) ((first | (go_at_call 54; (with_reducible refine (HIT.out _).mono ?_); rintro e wi ⟨rfl, ni⟩; have KI : Hid (Fq w wi xb pa pc f false) := hid (by first | exact KP.out.new ni | exact K0.out.drew.new ni)) | (go_at_call 26; (with_reducible refine (HPT.out _ ?_).mono ?_); (focus (first | exact KI.out.n | exact K0.out.drew.n)); rintro e wp ⟨rfl, rfl⟩; have KP := hid (by first | exact KI.out | exact K0.out.drew))))
          all_goals clear hadd1 hadd2 hadd3 hadd4
          all_goals go_wp2
          all_goals
            go_roundw
            case rel => exact ⟨j + 1, (o) ++ tailLine f, by simp, rfl, by omega, by rw [HNX.out, add_bytes']; try simp, by first | exact KI.out.n | exact KP.out.n⟩
            case measure => simp [intOf]; omega
        | true =>
          rw [hp] at d2
          rw [hp, if_pos rfl] at HNX
          have K0 : Hid (Fq w (wr.alloc (.cells #[.slice pa f.path.length pc, .int .i64 f.len, .bool true] 51)) xb pa pc f true) := hid ⟨HN.out.alloc _, by rw [hxb]; exact Blk.new _ _ _⟩
          have hadd0 : ∀ w, (Op.stringOp .add o ⟨#[42]⟩).run Tryz.prog w = .ok (.string (o ++ ⟨#[42]⟩)) w := fun w => run_string_add_sum (w := w) _ _ (by have := HTL2.out; omega)
          clear hp
          go_wp2
          rw [← hxb]
          clear hxb hadd0
          have hadd4 : ∀ w, (Op.stringOp .add (o ++ ⟨#[42]⟩) (tailLine f)).run Tryz.prog w = .ok (.string ((o ++ ⟨#[42]⟩) ++ tailLine f)) w := fun w => run_string_add_sum (w := w) _ _ (by have := HTL.out; have := HTL2.out; first | omega | (rw [ByteArray.size_append]; omega))
          go_region_held3 (fun w' => w'.cell? ⟨xb, 0, none⟩ = some (.slice pa f.path.length pc) ∧ w'.cell? ⟨xb, 1, none⟩ = some (.int .i64 f.len)) ((first | exact KP.out.cells | exact KI.out.cells | exact K0.out.drew.cells | go_keep)) ((first | (go_at_call 54; (with_reducible refine (HIT.out _).mono ?_); rintro e wi ⟨rfl, ni⟩; have KI : Hid (Fq w wi xb pa pc f true) := hid (by first | exact KP.out.new ni | exact K0.out.drew.new ni)) | (go_at_call 26; (with_reducible refine (HPT.out _ ?_).mono ?_); (focus (first | exact KI.out.n | exact K0.out.drew.n)); rintro e wp ⟨rfl, rfl⟩; have KP := hid (by first | exact KI.out | exact K0.out.drew))))
          all_goals clear hadd1 hadd2 hadd3 hadd4
          all_goals go_wp2
          all_goals
            go_roundw
            case rel => exact ⟨j + 1, (o ++ ⟨#[42]⟩) ++ tailLine f, by simp, rfl, by omega, by rw [HNX.out, add_bytes']; try simp, by first | exact KI.out.n | exact KP.out.n⟩
            case measure => simp [intOf]; omega
      · have hjl : l.take j = l := List.take_of_length_le (by omega)
        rw [hjl] at ho
        have HO := hid (ho.trans HX.out.symm)
        clear ho hjl hn
        go_wp2
        go_ret
        exact ⟨ret_str (bytes_ext HO.out), HN.out⟩
end Go.Proofs.YtnccfikimmolgaaGreatDoor
