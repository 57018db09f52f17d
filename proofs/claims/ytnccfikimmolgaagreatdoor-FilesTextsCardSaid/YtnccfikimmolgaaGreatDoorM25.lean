/-
  Several texts in one, in their build order. The walks of Find, the program's and the reference's, for every list and path. Conditions: the list lies as told, the path is small; the library's table is as laid.
-/
import Derived.Test.YtnccfikimmolgaaGreatDoorM24
import Derived.Test.YtnccfikimmolgaaGreatDoorM1
namespace Go.Proofs.YtnccfikimmolgaaGreatDoor
set_option linter.unusedSimpArgs false
set_option linter.unusedVariables false
open Go.RowKit Go.Shelf

/-- The first file with the path, from number i on. -/
def findP (path : ByteArray) : List FileV → Nat → Option Nat
  | [], _ => none
  | f :: r, i => if joinB f.path = path then some i else findP path r (i + 1)
def findErr (l : List FileV) (path : ByteArray) : Int := if validOf l then (match findP path l 0 with | some _ => 0 | none => 8) else 1
def findI (l : List FileV) (path : ByteArray) : Int := if validOf l then (match findP path l 0 with | some i => i | none => 0) else 0
theorem find_none {path : ByteArray} : ∀ {l : List FileV} {i : Nat}, findP path l i = none → ∀ f ∈ l, joinB f.path ≠ path
  | [], _, _ => by simp
  | g :: r, i, h => by
    rw [findP] at h
    split at h
    · cases h
    · next hg =>
      intro f hf
      rcases List.mem_cons.1 hf with rfl | hf
      · exact hg
      · exact find_none h f hf
/-- At the drop behind k files that have it not. -/
theorem find_drop {path : ByteArray} {l : List FileV} {k : Nat} (hk : k < l.length) : findP path (l.drop k) k = if joinB l[k].path = path then some k else findP path (l.drop (k + 1)) (k + 1) := by
  rw [List.drop_eq_getElem_cons hk, findP]
set_option maxRecDepth 100000 in
set_option maxHeartbeats 2000000 in
theorem find1_any (pa : Option Addr) (pc : Nat) (f : FileV) (path : ByteArray) (pb : Nat) (w : World) (hs : StrsAt w pa pc f.path) (hl : f.path.length ≤ 8) (hj : (joinB f.path).size ≤ 360) (hb : Blk w pb #[.string path] 9) :
    Calls Tryz.prog 39 #[fileV pa pc f, .pointer (some ⟨pb, 0, none⟩)] w fun e w' => e = .returned (.bool (decide (joinB f.path = path))) ∧ New w w' := by
  have HP := hid (fun W (n : New w W) => path_any pa pc f.path W (hs.new n) (by omega) (by omega))
  have HT := hid (two_eq (joinB f.path) path)
  have c0 := hb.cellv 0 (v := .string path) rfl
  have cl := hb.lt
  have HB := hid hb
  clear hs hb
  go_enter Tryz.func39, Tryz.ntmps39
  go_wp2
  go_region_held3 (fun w' => w'.cell? ⟨w.heap.size, 0, none⟩ = some (.slice pa f.path.length pc) ∧ w'.cell? ⟨pb, 0, none⟩ = some (.string path)) ((first | exact ⟨r0, r1⟩ | go_keep)) ((go_at_call 25; (with_reducible refine (HP.out _ ?_).mono ?_); (focus (exact ((Mod.alloc (Mod.refl (fun _ => False) w) _).drew))); rintro e w2 ⟨rfl, n2⟩; have N2 : Hid (New w w2) := hid (Mod.trans (Mod.drew (Mod.alloc (Mod.refl (fun _ => False) w) (.cells #[.slice pa f.path.length pc, .int .i64 f.len, .bool f.pad] 51))) n2); have r0 := (n2.blk (Blk.drew (Blk.new w #[.slice pa f.path.length pc, .int .i64 f.len, .bool f.pad] 51))).cellv (v := .slice pa f.path.length pc) 0 rfl; have r1 := (N2.out.blk HB.out).cellv (v := .string path) 0 rfl; clear n2))
  all_goals go_wp2
  all_goals go_ret
  all_goals exact ⟨ret_bool HT.out, N2.out⟩
set_option maxRecDepth 100000 in
set_option maxHeartbeats 2000000 in
theorem indexF_any (a : Option Addr) (c : Nat) (l : List FileV) (path : ByteArray) (pb : Nat) (w : World) (h : FilesAt w a c l) (hg : ∀ f ∈ l, GoodT f) (hb : Blk w pb #[.string path] 9) :
    Calls Tryz.prog 38 #[.slice a l.length c, .func (.func 39) #[] #[.pointer (some ⟨pb, 0, none⟩)]] w fun e w' => e = .returned (.int .i64 (match findP path l 0 with | some i => (i : Int) | none => -1)) ∧ New w w' := by
  have hm1 := h.room; have hm2 := h.cap
  unfold maxLen at hm2
  have HF := hid h; have HG := hid hg; have HB := hid hb
  obtain ⟨V, hV⟩ : ∃ V : Int, V = (match findP path l 0 with | some i => (i : Int) | none => -1) := ⟨_, rfl⟩
  rw [← hV]
  have HV := hid hV
  clear h hg hb hV
  go_enter Tryz.func38, Tryz.ntmps38
  go_wp2
  go_loopw [8] (fun i wr => ∃ k : Nat, i = .int .i64 k ∧ k ≤ l.length ∧ findP path l 0 = findP path (l.drop k) k ∧ New w wr) (fun i _ => l.length - (intOf i).toNat)
  case atStart => exact ⟨0, rfl, by omega, by simp, Mod.refl _ _⟩
  case round =>
    obtain ⟨k, rfl, hk, hfd, hn⟩ := hrel
    have HN := hid hn; have HFD := hid hfd
    clear hfd
    by_cases hlt : k < l.length
    · obtain ⟨b1, o1, rfl, hb1, hc1⟩ := HF.out.get (by omega)
      obtain ⟨pa, pc, d0, d1, d2, hst, -⟩ := (hc1 k hlt).new hn
      have hgd := HG.out _ (List.getElem_mem hlt)
      have HD := hid (find_drop (path := path) hlt)
      have hbw1 : b1 < wr.heap.size := by have := hn.size; omega
      have hkI : (k : Int) < (l.length : Int) := by omega
      obtain ⟨f, hf⟩ : ∃ f, f = l[k] := ⟨_, rfl⟩
      rw [← hf] at d0 d1 d2 hst hgd HD
      have HC := hid (find1_any pa pc f path pb wr hst hgd.2.2.1 hgd.2.2.2.1 (hn.blk HB.out))
      clear hc1 hf hn hst hgd
      cases he : decide (joinB f.path = path) with
      | true =>
        rw [he] at HC
        have hq : findP path l 0 = some k := by rw [HFD.out, HD.out, if_pos (by simpa using he)]
        have HVV : Hid (V = (k : Int)) := hid (by rw [HV.out, hq])
        clear he hq
        go_wp2_with (go_at_call 39; refine HC.out.mono ?_; rintro e w1 ⟨rfl, n1⟩; have N1 := hid n1; clear n1)
        go_ret
        exact ⟨ret_int HVV.out.symm, HN.out.trans N1.out⟩
      | false =>
        rw [he] at HC
        have hq : findP path l 0 = findP path (l.drop (k + 1)) (k + 1) := by rw [HFD.out, HD.out, if_neg (by simpa using he)]
        have HQ := hid hq
        clear he hq
        go_wp2_with (go_at_call 39; refine HC.out.mono ?_; rintro e w1 ⟨rfl, n1⟩; have N1 := hid n1; clear n1)
        exact ⟨⟨k + 1, by simp, by omega, HQ.out, HN.out.trans N1.out⟩, by simp [intOf]; omega⟩
    · have hq : findP path l 0 = none := by rw [HFD.out, List.drop_eq_nil_of_le (by omega)]; rfl
      have HVV : Hid (V = -1) := hid (by rw [HV.out, hq])
      clear hq hn
      go_wp2
      go_ret
      exact ⟨ret_int HVV.out.symm, HN.out⟩
theorem ret_fnd {x e : Int} {x' e' : Int} (h1 : x' = x) (h2 : e' = e) : Ending.returned (.tuple #[.int .i64 x, .int .i64 e]) = .returned (.tuple #[.int .i64 x', .int .i64 e']) := by rw [h1, h2]
set_option maxRecDepth 100000 in
set_option maxHeartbeats 2000000 in
theorem Find_any (a : Option Addr) (c : Nat) (l : List FileV) (path : ByteArray) (w : World) (h : FilesAt w a c l) (ht : Tab w) :
    Calls Tryz.prog 16 #[.slice a l.length c, .string path] w fun e w' => e = .returned (.tuple #[.int .i64 (findI l path), .int .i64 (findErr l path)]) ∧ New w w' := by
  have HV := hid (fun W (n : New w W) => valid_any a c l W (h.new n) (ht.new n))
  obtain ⟨I, hI⟩ : ∃ I, I = findI l path := ⟨_, rfl⟩
  obtain ⟨E, hE⟩ : ∃ E, E = findErr l path := ⟨_, rfl⟩
  rw [← hI, ← hE]
  cases hv : validOf l with
  | false =>
    rw [hv] at HV
    have HI : Hid (I = 0) := hid (by rw [hI, findI, hv]; rfl)
    have HE : Hid (E = 1) := hid (by rw [hE, findErr, hv]; rfl)
    clear h ht hv hI hE
    go_enter Tryz.func16, Tryz.ntmps16
    go_wp2_with fail
    refine (HV.out _ ((Mod.refl (fun _ => False) w).alloc _)).mono ?_
    rintro e w1 ⟨rfl, n1⟩
    have N1 := hid (Mod.trans ((Mod.refl (fun _ => False) w).alloc _) n1)
    clear n1
    go_wp2
    go_ret2
    exact ⟨ret_fnd HI.out HE.out, N1.out⟩
  | true =>
    rw [hv] at HV
    have HX := hid (fun W (n : New w W) (hb : Blk W w.heap.size #[.string path] 9) => indexF_any a c l path w.heap.size W (h.new n) (good_of hv) hb)
    have hI2 : I = match findP path l 0 with | some i => (i : Int) | none => 0 := by rw [hI, findI, hv, if_pos rfl]
    have hE2 : E = match findP path l 0 with | some _ => 0 | none => 8 := by rw [hE, findErr, hv, if_pos rfl]
    have hmf : ∀ (fn : Fn) (first cap : Array Value) (w : World), (Instr.makeFunc fn first cap).run Tryz.prog w = .ok (.func fn first cap) w := fun _ _ _ _ => rfl
    clear h ht hv hI hE
    cases hq : findP path l 0 with
    | none =>
      rw [hq] at HX hI2 hE2
      have HI := hid hI2; have HE := hid hE2
      clear hq hI2 hE2
      go_enter Tryz.func16, Tryz.ntmps16
      go_wp2_with fail
      refine (HV.out _ ((Mod.refl (fun _ => False) w).alloc _)).mono ?_
      rintro e w1 ⟨rfl, n1⟩
      have N1 := hid (Mod.trans ((Mod.refl (fun _ => False) w).alloc _) n1)
      have B1 := hid (n1.blk (Blk.new w #[.string path] 9))
      clear n1
      go_wp2_with fail
      refine (HX.out _ N1.out B1.out).mono ?_
      rintro e w2 ⟨rfl, n2⟩
      have N2 := hid (N1.out.trans n2)
      clear n2
      go_wp2
      go_ret2
      exact ⟨ret_fnd HI.out HE.out, N2.out⟩
    | some i =>
      rw [hq] at HX hI2 hE2
      have HI := hid hI2; have HE := hid hE2
      clear hq hI2 hE2
      go_enter Tryz.func16, Tryz.ntmps16
      go_wp2_with fail
      refine (HV.out _ ((Mod.refl (fun _ => False) w).alloc _)).mono ?_
      rintro e w1 ⟨rfl, n1⟩
      have N1 := hid (Mod.trans ((Mod.refl (fun _ => False) w).alloc _) n1)
      have B1 := hid (n1.blk (Blk.new w #[.string path] 9))
      clear n1
      go_wp2_with fail
      refine (HX.out _ N1.out B1.out).mono ?_
      rintro e w2 ⟨rfl, n2⟩
      have N2 := hid (N1.out.trans n2)
      clear n2
      have hi0 : (0 : Int) ≤ (i : Int) := by omega
      go_wp2
      go_ret2
      exact ⟨ret_fnd HI.out HE.out, N2.out⟩
set_option maxRecDepth 100000 in
set_option maxHeartbeats 2000000 in
theorem rFind_any (a : Option Addr) (c : Nat) (l : List FileV) (path : ByteArray) (w : World) (h : FilesAt w a c l) :
    Calls Tryz.prog 17 #[.slice a l.length c, .string path] w fun e w' => e = .returned (.tuple #[.int .i64 (findI l path), .int .i64 (findErr l path)]) ∧ New w w' := by
  have HV := hid (rvalid_any a c l w h)
  obtain ⟨I, hI⟩ : ∃ I, I = findI l path := ⟨_, rfl⟩
  obtain ⟨E, hE⟩ : ∃ E, E = findErr l path := ⟨_, rfl⟩
  rw [← hI, ← hE]
  cases hv : validOf l with
  | false =>
    rw [hv] at HV
    have HI : Hid (I = 0) := hid (by rw [hI, findI, hv]; rfl)
    have HE : Hid (E = 1) := hid (by rw [hE, findErr, hv]; rfl)
    clear h hv hI hE
    go_enter Tryz.func17, Tryz.ntmps17
    go_wp2_with fail
    refine HV.out.mono ?_
    rintro e w1 ⟨rfl, n1⟩
    have N1 := hid n1
    clear n1
    go_wp2
    go_ret2
    exact ⟨ret_fnd HI.out HE.out, N1.out⟩
  | true =>
    rw [hv] at HV
    have hg := good_of hv
    have HI2 : Hid (I = match findP path l 0 with | some i => (i : Int) | none => 0) := hid (by rw [hI, findI, hv, if_pos rfl])
    have HE2 : Hid (E = match findP path l 0 with | some _ => 0 | none => 8) := hid (by rw [hE, findErr, hv, if_pos rfl])
    have hr := h.room; have hc := h.cap
    unfold maxLen at hc
    have HF := hid h; have HG := hid hg
    clear h hv hI hE hg
    go_enter Tryz.func17, Tryz.ntmps17
    go_wp2_with fail
    refine HV.out.mono ?_
    rintro e w1 ⟨rfl, n1⟩
    have N1 := hid n1
    clear n1
    go_wp2
    go_loopw [13] (fun i wr => ∃ k : Nat, i = .int .i64 k ∧ k ≤ l.length ∧ findP path l 0 = findP path (l.drop k) k ∧ New w wr) (fun i _ => l.length - (intOf i).toNat)
    case atStart => exact ⟨0, rfl, by omega, by simp, N1.out⟩
    case round =>
      obtain ⟨k, rfl, hk, hfd, hn⟩ := hrel
      have HN := hid hn; have HFD := hid hfd
      clear hfd
      by_cases hlt : k < l.length
      · obtain ⟨b1, o1, rfl, hb1, hc1⟩ := HF.out.get (by omega)
        obtain ⟨pa, pc, d0, d1, d2, hst, -⟩ := (hc1 k hlt).new hn
        have hgd := HG.out _ (List.getElem_mem hlt)
        have HD := hid (find_drop (path := path) hlt)
        have hbw1 : b1 < wr.heap.size := by have := hn.size; omega
        have hkI : (k : Int) < (l.length : Int) := by omega
        obtain ⟨f, hf⟩ : ∃ f, f = l[k] := ⟨_, rfl⟩
        rw [← hf] at d0 d1 d2 hst hgd HD
        have HC := hid (fun W (n : New wr W) => rPath_any pa pc f.path W (hst.new n) (by have := hgd.2.2.2.1; omega))
        have hT := two_eq (joinB f.path) path
        clear hc1 hf hn hst hgd
        cases he : decide (joinB f.path = path) with
        | true =>
          rw [he] at hT
          have hq : findP path l 0 = some k := by rw [HFD.out, HD.out, if_pos (by simpa using he)]
          have HI : Hid (I = (k : Int)) := hid (by rw [HI2.out, hq])
          have HE : Hid (E = 0) := hid (by rw [HE2.out, hq])
          clear he hq
          go_wp2_with fail
          refine (HC.out _ ((Mod.refl (fun _ => False) wr).alloc _)).mono ?_
          rintro e w2 ⟨rfl, rfl⟩
          go_wp2
          go_ret2
          exact ⟨ret_fnd HI.out HE.out, HN.out.alloc _⟩
        | false =>
          rw [he] at hT
          have hq : findP path l 0 = findP path (l.drop (k + 1)) (k + 1) := by rw [HFD.out, HD.out, if_neg (by simpa using he)]
          have HQ := hid hq
          clear he hq
          go_wp2_with fail
          refine (HC.out _ ((Mod.refl (fun _ => False) wr).alloc _)).mono ?_
          rintro e w2 ⟨rfl, rfl⟩
          go_wp2
          go_roundw
          case rel => exact ⟨k + 1, by simp, by omega, HQ.out, HN.out.alloc _⟩
          case measure => simp [intOf]; omega
      · have hq : findP path l 0 = none := by rw [HFD.out, List.drop_eq_nil_of_le (by omega)]; rfl
        have HI : Hid (I = 0) := hid (by rw [HI2.out, hq])
        have HE : Hid (E = 8) := hid (by rw [HE2.out, hq])
        clear hq hn
        go_wp2
        go_ret2
        exact ⟨ret_fnd HI.out HE.out, HN.out⟩
end Go.Proofs.YtnccfikimmolgaaGreatDoor
