/-
  Several texts in one, in their build order. The walks of Folder, the program's and the reference's, for every list and a small path. Conditions: the list lies as told; the library's table is as laid.
-/
import Derived.Test.YtnccfikimmolgaaGreatDoorM25
import Derived.Test.YtnccfikimmolgaaGreatDoorM26
import Derived.Test.YtnccfikimmolgaaGreatDoorM27
import Derived.Test.YtnccfikimmolgaaGreatDoorM30
namespace Go.Proofs.YtnccfikimmolgaaGreatDoor
set_option linter.unusedSimpArgs false
set_option linter.unusedVariables false
open Go.RowKit Go.Shelf

theorem own_pushI {w' : World} {base : Nat} {v' : Value} {xs : List Int} {x y : Int} (h : w'.ownsRow base 3 1 v' (xs.length + 1) (xs.map (Value.int .i64) ++ [.int .i64 y])) (e : y = x) : OwnI w' base v' (xs ++ [x]) := by
  subst e
  unfold OwnI
  simpa using h
/-- Is the file below the folder? -/
def inFolder (path : ByteArray) (f : FileV) : Bool := path.toList.isEmpty || Lib.hasPrefix (joinB f.path).data.toList (path ++ ⟨#[47]⟩).data.toList
def folderTo (path : ByteArray) (l : List FileV) (j : Nat) : List Int := ((List.range j).filter (fun i => match l[i]? with | some f => inFolder path f | none => false)).map (fun i : Nat => (i : Int))
def folderErr (l : List FileV) (path : ByteArray) : Int := if validOf l then (if folderTo path l l.length = [] then 8 else 0) else 1
def folderL (l : List FileV) (path : ByteArray) : List Int := if validOf l then folderTo path l l.length else []
theorem folder_next {path : ByteArray} {l : List FileV} {j : Nat} (h : j < l.length) : folderTo path l (j + 1) = folderTo path l j ++ (if inFolder path l[j] then [(j : Int)] else []) := by
  unfold folderTo
  rw [List.range_succ, List.filter_append, List.map_append]
  congr 1
  rw [List.filter_cons, List.getElem?_eq_getElem h]
  by_cases hq : inFolder path l[j] = true
  · simp [hq]
  · simp [hq]
theorem folder_len (path : ByteArray) (l : List FileV) (j : Nat) : (folderTo path l j).length ≤ j := by
  unfold folderTo
  rw [List.length_map]
  have := List.length_filter_le (fun i => match l[i]? with | some f => inFolder path f | none => false) (List.range j)
  simpa using this
/-- As the reference asks it. -/
theorem prefix_at (p q : List UInt8) : Lib.hasPrefix p (q ++ [47]) = (decide (q.length < p.length) && decide (p.take q.length = q) && decide (p[q.length]? = some 47)) := by
  rw [Bool.eq_iff_iff]
  simp only [Lib.hasPrefix, List.isPrefixOf_iff_prefix, Bool.and_eq_true, decide_eq_true_eq]
  constructor
  · rintro ⟨t, rfl⟩
    refine ⟨⟨by simp, ?_⟩, ?_⟩
    · rw [List.append_assoc, List.take_append_of_le_length (Nat.le_refl _), List.take_length]
    · rw [List.append_assoc, List.getElem?_append_right (Nat.le_refl _)]
      simp
  · rintro ⟨⟨h1, h2⟩, h3⟩
    refine ⟨p.drop (q.length + 1), ?_⟩
    have e : p.drop q.length = p[q.length] :: p.drop (q.length + 1) := List.drop_eq_getElem_cons h1
    rw [List.getElem?_eq_getElem h1] at h3
    rw [Option.some.inj h3] at e
    conv => rhs; rw [← List.take_append_drop q.length p, h2, e]
    simp
theorem ret_fol {L M : List Int} {a : Option Addr} {c : Nat} {E e : Int} (h1 : L = M) (h2 : E = e) : Ending.returned (.tuple #[.slice a M.length c, .int .i64 e]) = .returned (.tuple #[.slice a L.length c, .int .i64 E]) := by subst h1 h2; rfl
theorem owni_zero {w : World} {base : Nat} {v : Value} {xs : List Int} (h : OwnI w base v xs) : ∃ a c, v = .slice a xs.length c ∧ IntsAt w a c xs ∧ c ≤ 9223372036854775807 := by
  obtain ⟨a, c, e, hi⟩ := h.ints
  have := hi.cap
  unfold maxLen at this
  exact ⟨a, c, e, hi, by omega⟩
set_option maxRecDepth 100000 in
set_option maxHeartbeats 4000000 in
theorem Folder_any (a : Option Addr) (c : Nat) (l : List FileV) (path : ByteArray) (w : World) (h : FilesAt w a c l) (ht : Tab w) (hp4 : path.size ≤ 400) :
    Calls Tryz.prog 18 #[.slice a l.length c, .string path] w fun e w' => (∃ a' c', e = .returned (.tuple #[.slice a' (folderL l path).length c', .int .i64 (folderErr l path)]) ∧ IntsAt w' a' c' (folderL l path)) ∧ New w w' := by
  have HV := hid (valid_any a c l w h ht)
  obtain ⟨L, hL⟩ : ∃ L, L = folderL l path := ⟨_, rfl⟩
  obtain ⟨E, hE⟩ : ∃ E, E = folderErr l path := ⟨_, rfl⟩
  rw [← hL, ← hE]
  cases hv : validOf l with
  | false =>
    rw [hv] at HV
    have HL : Hid (L = []) := hid (by rw [hL, folderL, hv]; rfl)
    have HE : Hid (E = 1) := hid (by rw [hE, folderErr, hv]; rfl)
    clear h ht hv hL hE
    go_enter Tryz.func18, Tryz.ntmps18
    go_wp2_with fail
    refine HV.out.mono ?_
    rintro e w1 ⟨rfl, n1⟩
    have N1 := hid n1
    clear n1
    go_wp2
    go_ret2
    exact ⟨⟨none, 0, ret_fol HL.out HE.out, by rw [HL.out]; exact IntsAt.nil _⟩, N1.out⟩
  | true =>
    rw [hv] at HV
    have hg := good_of hv
    obtain ⟨v1, v2, -, -⟩ := valid_facts hv
    have HL2 : Hid (L = folderTo path l l.length) := hid (by rw [hL, folderL, hv, if_pos rfl])
    have HE2 : Hid (E = if folderTo path l l.length = [] then 8 else 0) := hid (by rw [hE, folderErr, hv, if_pos rfl])
    have hr := h.room; have hc := h.cap
    unfold maxLen at hc
    have HF := hid h; have HG := hid hg
    have HTB := hid ht
    obtain ⟨i0, hi, hz0, hz1, hz2⟩ := info_parts info_int
    clear h ht hv hL hE hg
    go_enter Tryz.func18, Tryz.ntmps18
    go_wp2_with fail
    refine HV.out.mono ?_
    rintro e w1 ⟨rfl, n1⟩
    have N1 := hid n1
    clear n1
    go_wp2
    go_loopw [14, 6] (fun x v wr => ∃ (j : Nat) (v1 : Value), x = .int .i64 j ∧ v1 = v ∧ j ≤ l.length ∧ OwnI wr w1.heap.size v1 (folderTo path l j) ∧ New w1 wr) (fun x _ _ => l.length - (intOf x).toNat)
    case atStart => exact ⟨0, _, rfl, rfl, by omega, OwnI.nil _ _, Mod.refl _ _⟩
    case round =>
      obtain ⟨j, v1, rfl, rfl, hj, ho, hn⟩ := hrel
      have HO := hid ho
      have hol := folder_len path l j
      clear ho
      by_cases hlt : j < l.length
      · obtain ⟨b1, o1, rfl, hb1, hc1⟩ := HF.out.get (by omega)
        obtain ⟨pa, pc, d0, d1, d2, hst, -⟩ := (hc1 j hlt).new (N1.out.trans hn)
        have hgd := HG.out _ (List.getElem_mem hlt)
        have HHN := hid (folder_next (path := path) hlt)
        have hbw1 : b1 < wr.heap.size := by have := (N1.out.trans hn).size; omega
        have hjI : (j : Int) < (l.length : Int) := by omega
        obtain ⟨f, hf⟩ : ∃ f, f = l[j] := ⟨_, rfl⟩
        rw [← hf] at d0 d1 d2 hst hgd HHN
        have HC := hid (fun W (n : New wr W) => path_any pa pc f.path W (hst.new n) (by have := hgd.2.2.1; omega) (by have := hgd.2.2.2.1; omega))
        have hjs := hgd.2.2.2.1
        have HN := hid hn
        obtain ⟨H, hH⟩ : ∃ H, H = folderTo path l j := ⟨_, rfl⟩
        rw [← hH] at HO hol HHN
        clear hc1 hf hn hst hgd hH
        cases hpe : path.toList.isEmpty with
        | true =>
          have hin : inFolder path f = true := by simp [inFolder, hpe]
          rw [hin, if_pos rfl] at HHN
          have NX := hid ((Mod.refl (fun _ => False) wr).alloc (.cells #[.slice pa f.path.length pc, .int .i64 f.len, .bool f.pad] 51))
          have hpe2 : path.toList = [] := by simpa using hpe
          have HPE := hid hpe2
          clear hin hpe2
          go_wp2_with (at_builtin; refine wpList_append_own_at _ rfl _ _ 23 rfl w1.heap.size 3 i0 _ 1 8 Tryz.underlying23 hi hz0 hz1 hz2 rfl (by decide) v1 H.length (H.map (Value.int .i64)) rfl ?ow ⟨wr.heap.size + 1, 0, none⟩ 1 1 [.int .i64 (j : Int)] rfl rfl ?hn ?h1 ?h63 ?hby ?hba ?_)
          case ow => exact (HO.out.new NX.out).new ((Mod.refl _ _).alloc _)
          case hn =>
            intro j u hj
            rw [add_none]
            match j, hj with
            | 0, hj => simp at hj; subst hj; exact (Blk.newAt (by simp)).cellv 0 rfl
          case h1 => intro u hu; simp at hu; subst hu; rfl
          case h63 => unfold maxLen; omega
          case hby => omega
          case hba => have := HN.out.size; have := NX.out.size; simp at *; omega
          intro o3 w3 r3 g3 _ _
          have O3 : Hid (OwnI w3 w1.heap.size o3 (folderTo path l (j + 1))) := hid (by rw [HHN.out]; exact own_pushI r3 rfl)
          have N3 : Hid (New w1 w3) := hid (New.grown ((HN.out.trans NX.out).alloc _) g3 (fun j hj => (World.ownsRow.lt HO.out j hj).1))
          clear r3 g3
          go_wp2
          go_roundw
          case rel => exact ⟨j + 1, _, by simp, rfl, by omega, O3.out, N3.out⟩
          case measure => simp [intOf]; omega
        | false =>
          have hq : (⟨#[47]⟩ : ByteArray).size = 1 := rfl
          have hadd1 : ∀ w, (Op.stringOp .add path ⟨#[47]⟩).run Tryz.prog w = .ok (.string (path ++ ⟨#[47]⟩)) w := fun w => run_string_add_sum (w := w) _ _ (by omega)
          have HPX := hid (fun W => Tryz.strings_HasPrefix (joinB f.path) (path ++ ⟨#[47]⟩) W)
          have hin : inFolder path f = Lib.hasPrefix (joinB f.path).data.toList (path ++ ⟨#[47]⟩).data.toList := by simp [inFolder, hpe]
          cases hx : Lib.hasPrefix (joinB f.path).data.toList (path ++ ⟨#[47]⟩).data.toList with
          | true =>
            rw [hin, hx, if_pos rfl] at HHN
            rw [hx] at HPX
            clear hin hx hq
            go_wp2_with fail
            refine (HC.out _ (Mod.alloc (Mod.refl _ _) _)).mono ?_
            rintro e w2 ⟨rfl, n2⟩
            have NX : Hid (New wr w2) := hid (Mod.trans (Mod.alloc (Mod.refl (fun _ => False) wr) (.cells #[.slice pa f.path.length pc, .int .i64 f.len, .bool f.pad] 51)) n2)
            clear n2
            go_wp2_with fail
            refine (HPX.out _).mono ?_
            rintro e w3 ⟨rfl, hw3⟩
            obtain rfl : w2 = w3 := hw3.symm
            clear hadd1
            go_wp2_with (at_builtin; refine wpList_append_own_at _ rfl _ _ 23 rfl w1.heap.size 3 i0 _ 1 8 Tryz.underlying23 hi hz0 hz1 hz2 rfl (by decide) v1 H.length (H.map (Value.int .i64)) rfl ?ow ⟨w2.heap.size, 0, none⟩ 1 1 [.int .i64 (j : Int)] rfl rfl ?hn ?h1 ?h63 ?hby ?hba ?_)
            case ow => exact (HO.out.new NX.out).new ((Mod.refl _ _).alloc _)
            case hn =>
              intro j u hj
              rw [add_none]
              match j, hj with
              | 0, hj => simp at hj; subst hj; exact (Blk.newAt (by simp)).cellv 0 rfl
            case h1 => intro u hu; simp at hu; subst hu; rfl
            case h63 => unfold maxLen; omega
            case hby => omega
            case hba => have := HN.out.size; have := NX.out.size; simp at *; omega
            intro o3 w3 r3 g3 _ _
            have O3 : Hid (OwnI w3 w1.heap.size o3 (folderTo path l (j + 1))) := hid (by rw [HHN.out]; exact own_pushI r3 rfl)
            have N3 : Hid (New w1 w3) := hid (New.grown ((HN.out.trans NX.out).alloc _) g3 (fun j hj => (World.ownsRow.lt HO.out j hj).1))
            clear r3 g3
            go_wp2
            go_roundw
            case rel => exact ⟨j + 1, _, by simp, rfl, by omega, O3.out, N3.out⟩
            case measure => simp [intOf]; omega
          | false =>
            rw [hin, hx, if_neg (by decide), List.append_nil] at HHN
            rw [hx] at HPX
            clear hin hx hq
            go_wp2_with fail
            refine (HC.out _ (Mod.alloc (Mod.refl _ _) _)).mono ?_
            rintro e w2 ⟨rfl, n2⟩
            have NX : Hid (New wr w2) := hid (Mod.trans (Mod.alloc (Mod.refl (fun _ => False) wr) (.cells #[.slice pa f.path.length pc, .int .i64 f.len, .bool f.pad] 51)) n2)
            clear n2
            go_wp2_with fail
            refine (HPX.out _).mono ?_
            rintro e w3 ⟨rfl, hw3⟩
            obtain rfl : w2 = w3 := hw3.symm
            go_wp2
            go_roundw
            case rel => exact ⟨j + 1, _, by simp, rfl, by omega, by rw [HHN.out]; exact HO.out.new NX.out, HN.out.trans NX.out⟩
            case measure => simp [intOf]; omega
      · have hjl : j = l.length := by omega
        subst hjl
        have HN := hid hn
        clear hn
        obtain ⟨a', c', rfl, hia, hcm⟩ := owni_zero HO.out
        have HIA := hid hia
        clear hia
        obtain ⟨M, hM⟩ : ∃ M, M = folderTo path l l.length := ⟨_, rfl⟩
        rw [← hM] at HIA ⊢
        have hEE : E = if M = [] then 8 else 0 := by rw [HE2.out, hM]
        have hLM : L = M := by rw [HL2.out, hM]
        cases hm : M with
        | nil =>
          rw [hm] at HIA hEE hLM
          have HEE := hid hEE; have HLM := hid hLM
          clear hM hEE hLM hm
          simp only [List.length_nil]
          go_wp2
          go_ret2
          exact ⟨⟨none, 0, ret_fol HLM.out HEE.out, by rw [HLM.out]; exact IntsAt.nil _⟩, N1.out.trans HN.out⟩
        | cons x r =>
          rw [hm] at HIA hEE hLM
          have HEE := hid hEE; have HLM := hid hLM
          have hpos : (0 : Int) < ((x :: r).length : Int) := by simp
          obtain ⟨n, hnn⟩ : ∃ n, n = (x :: r).length := ⟨_, rfl⟩
          rw [← hnn] at hpos ⊢
          have hne : ((n : Int) == 0) = false := by simp; omega
          have HNN := hid hnn
          clear hM hEE hLM hm hnn
          go_wp2
          go_ret2
          rw [HNN.out]
          exact ⟨⟨a', c', ret_fol HLM.out HEE.out, by rw [HLM.out]; exact HIA.out⟩, N1.out.trans HN.out⟩
/-- The reference's three tests together. -/
theorem folder_test {path p : ByteArray} (h : path.size < p.size) : Lib.hasPrefix p.data.toList (path ++ ⟨#[47]⟩).data.toList = (((p.extract 0 path.size).toList == path.toList) && ((p[path.size].toNat : Int) == 47)) := by
  have e1 : (path ++ ⟨#[47]⟩).data.toList = path.data.toList ++ [47] := by simp
  have e2 : ∀ b : ByteArray, b.data.toList.length = b.size := fun b => by rw [Array.length_toList]; rfl
  have e3 : (p.extract 0 path.size).toList = p.data.toList.take path.size := by rw [ByteArray.toList_eq]; exact Lib.extract_from_zero p path.size
  have e4 : p.data.toList[path.size]? = some p[path.size] := by
    rw [List.getElem?_eq_getElem (by rw [e2]; exact h)]
    rfl
  rw [e1, prefix_at, e2, e2, e3, e4, decide_eq_true h, Bool.true_and, ByteArray.toList_eq]
  congr 1
  · rw [Bool.eq_iff_iff]; simp
  · rw [Bool.eq_iff_iff]
    simp only [decide_eq_true_eq, beq_iff_eq, Option.some.injEq]
    constructor
    · intro q; rw [q]; rfl
    · intro q
      apply UInt8.toNat_inj.1
      have : (47 : UInt8).toNat = 47 := rfl
      omega
theorem folder_short {path p : ByteArray} (h : ¬ path.size < p.size) : Lib.hasPrefix p.data.toList (path ++ ⟨#[47]⟩).data.toList = false := by
  have e1 : (path ++ ⟨#[47]⟩).data.toList = path.data.toList ++ [47] := by simp
  have e2 : ∀ b : ByteArray, b.data.toList.length = b.size := fun b => by rw [Array.length_toList]; rfl
  rw [e1, prefix_at, e2, e2, decide_eq_false h]
  rfl
set_option maxRecDepth 100000 in
set_option maxHeartbeats 4000000 in
theorem rFolder_any (a : Option Addr) (c : Nat) (l : List FileV) (path : ByteArray) (w : World) (h : FilesAt w a c l) (hp4 : path.size ≤ 400) :
    Calls Tryz.prog 19 #[.slice a l.length c, .string path] w fun e w' => (∃ a' c', e = .returned (.tuple #[.slice a' (folderL l path).length c', .int .i64 (folderErr l path)]) ∧ IntsAt w' a' c' (folderL l path)) ∧ New w w' := by
  have HV := hid (rvalid_any a c l w h)
  obtain ⟨L, hL⟩ : ∃ L, L = folderL l path := ⟨_, rfl⟩
  obtain ⟨E, hE⟩ : ∃ E, E = folderErr l path := ⟨_, rfl⟩
  rw [← hL, ← hE]
  cases hv : validOf l with
  | false =>
    rw [hv] at HV
    have HL : Hid (L = []) := hid (by rw [hL, folderL, hv]; rfl)
    have HE : Hid (E = 1) := hid (by rw [hE, folderErr, hv]; rfl)
    clear h hv hL hE
    go_enter Tryz.func19, Tryz.ntmps19
    go_wp2_with fail
    refine HV.out.mono ?_
    rintro e w1 ⟨rfl, n1⟩
    have N1 := hid n1
    clear n1
    go_wp2
    go_ret2
    exact ⟨⟨none, 0, ret_fol HL.out HE.out, by rw [HL.out]; exact IntsAt.nil _⟩, N1.out⟩
  | true =>
    rw [hv] at HV
    have hg := good_of hv
    obtain ⟨v1, v2, -, -⟩ := valid_facts hv
    have HL2 : Hid (L = folderTo path l l.length) := hid (by rw [hL, folderL, hv, if_pos rfl])
    have HE2 : Hid (E = if folderTo path l l.length = [] then 8 else 0) := hid (by rw [hE, folderErr, hv, if_pos rfl])
    have hr := h.room; have hc := h.cap
    unfold maxLen at hc
    have HF := hid h; have HG := hid hg
    obtain ⟨i0, hi, hz0, hz1, hz2⟩ := info_parts info_int
    clear h hv hL hE hg
    go_enter Tryz.func19, Tryz.ntmps19
    go_wp2_with fail
    refine HV.out.mono ?_
    rintro e w1 ⟨rfl, n1⟩
    have N1 := hid n1
    clear n1
    go_wp2
    go_loopw [15, 6] (fun x v wr => ∃ (j : Nat) (v1 : Value), x = .int .i64 j ∧ v1 = v ∧ j ≤ l.length ∧ OwnI wr w1.heap.size v1 (folderTo path l j) ∧ New w1 wr) (fun x _ _ => l.length - (intOf x).toNat)
    case atStart => exact ⟨0, _, rfl, rfl, by omega, OwnI.nil _ _, Mod.refl _ _⟩
    case round =>
      obtain ⟨j, v1, rfl, rfl, hj, ho, hn⟩ := hrel
      have HO := hid ho
      have hol := folder_len path l j
      clear ho
      by_cases hlt : j < l.length
      · obtain ⟨b1, o1, rfl, hb1, hc1⟩ := HF.out.get (by omega)
        obtain ⟨pa, pc, d0, d1, d2, hst, -⟩ := (hc1 j hlt).new (N1.out.trans hn)
        have hgd := HG.out _ (List.getElem_mem hlt)
        have HHN := hid (folder_next (path := path) hlt)
        have hbw1 : b1 < wr.heap.size := by have := (N1.out.trans hn).size; omega
        have hjI : (j : Int) < (l.length : Int) := by omega
        obtain ⟨f, hf⟩ : ∃ f, f = l[j] := ⟨_, rfl⟩
        rw [← hf] at d0 d1 d2 hst hgd HHN
        have HC := hid (fun W (n : New wr W) => rPath_any pa pc f.path W (hst.new n) (by have := hgd.2.2.2.1; omega))
        have hjs := hgd.2.2.2.1
        have HN := hid hn
        obtain ⟨H, hH⟩ : ∃ H, H = folderTo path l j := ⟨_, rfl⟩
        rw [← hH] at HO hol HHN
        have NX := hid ((Mod.refl (fun _ => False) wr).alloc (.cells #[.slice pa f.path.length pc, .int .i64 f.len, .bool f.pad] 51))
        have hin : path.toList.isEmpty = false → inFolder path f = Lib.hasPrefix (joinB f.path).data.toList (path ++ ⟨#[47]⟩).data.toList := fun q => by simp [inFolder, q]
        have hin1 : path.toList.isEmpty = true → inFolder path f = true := fun q => by simp [inFolder, q]
        obtain ⟨p, hp⟩ : ∃ p, p = joinB f.path := ⟨_, rfl⟩
        rw [← hp] at HC hin hjs
        clear hc1 hf hn hst hgd hH hp
        cases hpe : path.toList.isEmpty with
        | true =>
          rw [hin1 hpe, if_pos rfl] at HHN
          have hpe2 : path.toList = [] := by simpa using hpe
          have HPE := hid hpe2
          clear hin hin1 hpe2
          go_wp2_with fail
          refine (HC.out _ (Mod.alloc (Mod.refl _ _) _)).mono ?_
          rintro e w3 ⟨rfl, rfl⟩
          go_wp2_with (at_builtin; refine wpList_append_own_at _ rfl _ _ 23 rfl w1.heap.size 3 i0 _ 1 8 Tryz.underlying23 hi hz0 hz1 hz2 rfl (by decide) v1 H.length (H.map (Value.int .i64)) rfl ?ow ⟨wr.heap.size + 1, 0, none⟩ 1 1 [.int .i64 (j : Int)] rfl rfl ?hn ?h1 ?h63 ?hby ?hba ?_)
          case ow => exact (HO.out.new NX.out).new ((Mod.refl _ _).alloc _)
          case hn =>
            intro j u hj
            rw [add_none]
            match j, hj with
            | 0, hj => simp at hj; subst hj; exact (Blk.newAt (by simp)).cellv 0 rfl
          case h1 => intro u hu; simp at hu; subst hu; rfl
          case h63 => unfold maxLen; omega
          case hby => omega
          case hba => have := HN.out.size; have := NX.out.size; simp at *; omega
          intro o3 w3 r3 g3 _ _
          have O3 : Hid (OwnI w3 w1.heap.size o3 (folderTo path l (j + 1))) := hid (by rw [HHN.out]; exact own_pushI r3 rfl)
          have N3 : Hid (New w1 w3) := hid (New.grown ((HN.out.trans NX.out).alloc _) g3 (fun j hj => (World.ownsRow.lt HO.out j hj).1))
          clear r3 g3
          go_wp2
          go_roundw
          case rel => exact ⟨j + 1, _, by simp, rfl, by omega, O3.out, N3.out⟩
          case measure => simp [intOf]; omega
        | false =>
          by_cases hlen : path.size < p.size
          · have hft := folder_test hlen
            cases h1 : (p.extract 0 path.size).toList == path.toList with
            | false =>
              rw [hin hpe, hft, h1, Bool.false_and, if_neg (by decide), List.append_nil] at HHN
              clear hin hin1 hft
              go_wp2_with fail
              refine (HC.out _ (Mod.alloc (Mod.refl _ _) _)).mono ?_
              rintro e w3 ⟨rfl, rfl⟩
              go_wp2
              go_roundw
              case rel => exact ⟨j + 1, _, by simp, rfl, by omega, by rw [HHN.out]; exact HO.out.new NX.out, HN.out.trans NX.out⟩
              case measure => simp [intOf]; omega
            | true =>
              cases h2 : ((p[path.size].toNat : Int) == 47) with
              | false =>
                rw [hin hpe, hft, h1, h2, Bool.and_false, if_neg (by decide), List.append_nil] at HHN
                clear hin hin1 hft
                go_wp2_with fail
                refine (HC.out _ (Mod.alloc (Mod.refl _ _) _)).mono ?_
                rintro e w3 ⟨rfl, rfl⟩
                go_wp2
                go_roundw
                case rel => exact ⟨j + 1, _, by simp, rfl, by omega, by rw [HHN.out]; exact HO.out.new NX.out, HN.out.trans NX.out⟩
                case measure => simp [intOf]; omega
              | true =>
                rw [hin hpe, hft, h1, h2, Bool.and_true, if_pos rfl] at HHN
                clear hin hin1 hft
                go_wp2_with fail
                refine (HC.out _ (Mod.alloc (Mod.refl _ _) _)).mono ?_
                rintro e w3 ⟨rfl, rfl⟩
                go_wp2_with (at_builtin; refine wpList_append_own_at _ rfl _ _ 23 rfl w1.heap.size 3 i0 _ 1 8 Tryz.underlying23 hi hz0 hz1 hz2 rfl (by decide) v1 H.length (H.map (Value.int .i64)) rfl ?ow ⟨wr.heap.size + 1, 0, none⟩ 1 1 [.int .i64 (j : Int)] rfl rfl ?hn ?h1 ?h63 ?hby ?hba ?_)
                case ow => exact (HO.out.new NX.out).new ((Mod.refl _ _).alloc _)
                case hn =>
                  intro j u hj
                  rw [add_none]
                  match j, hj with
                  | 0, hj => simp at hj; subst hj; exact (Blk.newAt (by simp)).cellv 0 rfl
                case h1 => intro u hu; simp at hu; subst hu; rfl
                case h63 => unfold maxLen; omega
                case hby => omega
                case hba => have := HN.out.size; have := NX.out.size; simp at *; omega
                intro o3 w3 r3 g3 _ _
                have O3 : Hid (OwnI w3 w1.heap.size o3 (folderTo path l (j + 1))) := hid (by rw [HHN.out]; exact own_pushI r3 rfl)
                have N3 : Hid (New w1 w3) := hid (New.grown ((HN.out.trans NX.out).alloc _) g3 (fun j hj => (World.ownsRow.lt HO.out j hj).1))
                clear r3 g3
                go_wp2
                go_roundw
                case rel => exact ⟨j + 1, _, by simp, rfl, by omega, O3.out, N3.out⟩
                case measure => simp [intOf]; omega
          · rw [hin hpe, folder_short hlen, if_neg (by decide), List.append_nil] at HHN
            clear hin hin1
            go_wp2_with fail
            refine (HC.out _ (Mod.alloc (Mod.refl _ _) _)).mono ?_
            rintro e w3 ⟨rfl, rfl⟩
            go_wp2
            go_roundw
            case rel => exact ⟨j + 1, _, by simp, rfl, by omega, by rw [HHN.out]; exact HO.out.new NX.out, HN.out.trans NX.out⟩
            case measure => simp [intOf]; omega
      · have hjl : j = l.length := by omega
        subst hjl
        have HN := hid hn
        clear hn
        obtain ⟨a', c', rfl, hia, hcm⟩ := owni_zero HO.out
        have HIA := hid hia
        clear hia
        obtain ⟨M, hM⟩ : ∃ M, M = folderTo path l l.length := ⟨_, rfl⟩
        rw [← hM] at HIA ⊢
        have hEE : E = if M = [] then 8 else 0 := by rw [HE2.out, hM]
        have hLM : L = M := by rw [HL2.out, hM]
        cases hm : M with
        | nil =>
          rw [hm] at HIA hEE hLM
          have HEE := hid hEE; have HLM := hid hLM
          clear hM hEE hLM hm
          simp only [List.length_nil]
          go_wp2
          go_ret2
          exact ⟨⟨none, 0, ret_fol HLM.out HEE.out, by rw [HLM.out]; exact IntsAt.nil _⟩, N1.out.trans HN.out⟩
        | cons x r =>
          rw [hm] at HIA hEE hLM
          have HEE := hid hEE; have HLM := hid hLM
          have hpos : (0 : Int) < ((x :: r).length : Int) := by simp
          obtain ⟨n, hnn⟩ : ∃ n, n = (x :: r).length := ⟨_, rfl⟩
          rw [← hnn] at hpos ⊢
          have hne : ((n : Int) == 0) = false := by simp; omega
          have HNN := hid hnn
          clear hM hEE hLM hm hnn
          go_wp2
          go_ret2
          rw [HNN.out]
          exact ⟨⟨a', c', ret_fol HLM.out HEE.out, by rw [HLM.out]; exact HIA.out⟩, N1.out.trans HN.out⟩
end Go.Proofs.YtnccfikimmolgaaGreatDoor
