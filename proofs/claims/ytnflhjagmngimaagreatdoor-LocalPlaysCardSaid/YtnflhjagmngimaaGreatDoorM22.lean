/-
  Several texts in one, in their build order. The walk of take: a line is read by the function of its first word. Conditions: the message that is read lies as told; the library's variables are as laid.
-/
import Derived.Test.YtnflhjagmngimaaGreatDoorM21
import Derived.Deep.RegionHeld3
namespace Go.Proofs.YtnflhjagmngimaaGreatDoor
set_option linter.unusedSimpArgs false
set_option linter.unusedVariables false
open Go.RowKit Go.Shelf

def nextB (ph : Nat) : ByteArray := match ph with
  | 0 => ⟨#[80, 111, 114, 116, 58, 32]⟩
  | 1 => ⟨#[78, 97, 109, 101, 58, 32]⟩
  | 2 => ⟨#[78, 97, 109, 101, 58, 32, 67, 111, 111, 107, 105, 101, 58, 32]⟩
  | _ => ⟨#[]⟩
/-- The message that is read lies in block B. -/
def RdAt (w : World) (B : Nat) (ln : Int) (s : RdS) : Prop := ∃ v, Blk w B #[.int .i64 s.port, v, .string s.cookie, .int .i64 ln, .string (nextB s.ph)] 159 ∧ OwnT w (B + 1) v s.names
def toldL (i : Int) : List PanicEntry := [{ v := .iface 121 (.agg #[.int .i64 i]), recovered := false }]
/-- What take makes of a line. -/
def TkOut (B : Nat) (ln : Int) (o : Option RdS) (e : Ending) (w' : World) : Prop := match o with
  | some s' => e = .returned (.tuple #[]) ∧ RdAt w' B ln s'
  | none => e = .panicked (toldL ln)
/-! plain facts -/
theorem ib_range (l : List UInt8) (c : UInt8) : -1 ≤ Lib.indexByte l c ∧ Lib.indexByte l c < l.length := by
  refine ⟨Lib.indexByte_ge l c, ?_⟩
  by_cases h : Lib.indexByte l c < 0
  · omega
  · obtain ⟨o, ho⟩ := Int.eq_ofNat_of_zero_le (by omega : 0 ≤ Lib.indexByte l c)
    have := (Lib.indexByte_some ho).1
    have := (List.getElem?_eq_some_iff.1 this).1
    omega
theorem key_le (l : List UInt8) : keyLen l ≤ l.length ∧ (Lib.indexByte l 32 + 1 = (keyLen l : Int)) := by
  have := ib_range l 32
  unfold keyLen
  omega
theorem ext_listL (t : ByteArray) (b k : Nat) : (t.extract b k).data.toList = (t.data.toList.drop b).take (k - b) := by
  rw [ByteArray.data_extract, Array.toList_extract]
theorem key_ext (t : ByteArray) : (t.extract 0 (keyLen t.data.toList)).data.toList = t.data.toList.take (keyLen t.data.toList) := by
  rw [ext_listL, Nat.sub_zero, List.drop_zero]
theorem rest_ext (t : ByteArray) : (t.extract (keyLen t.data.toList) t.size).data.toList = t.data.toList.drop (keyLen t.data.toList) := by
  have h : t.data.toList.length = t.size := by rw [Array.length_toList]; rfl
  rw [ext_listL, List.take_of_length_le (by rw [List.length_drop]; omega)]
theorem ext_eq {t : ByteArray} {l : List UInt8} (h : t.data.toList = l) : t = ⟨l.toArray⟩ := bytes_ext (by rw [h])
theorem has_next (ph : Nat) : (Lib.contains (nextB ph).data.toList portL = decide (ph = 0)) ∧ (Lib.contains (nextB ph).data.toList nameL = decide (ph = 1 ∨ ph = 2)) ∧ (Lib.contains (nextB ph).data.toList cookL = decide (ph = 2)) := by
  match ph with
  | 0 => decide +kernel
  | 1 => decide +kernel
  | 2 => decide +kernel
  | n + 3 =>
    have e1 : decide (n + 3 = 0) = false := by rw [decide_eq_false_iff_not]; omega
    have e2 : decide (n + 3 = 1 ∨ n + 3 = 2) = false := by rw [decide_eq_false_iff_not]; omega
    have e3 : decide (n + 3 = 2) = false := by rw [decide_eq_false_iff_not]; omega
    rw [e1, e2, e3]
    have e : nextB (n + 3) = ⟨#[]⟩ := rfl
    rw [e]
    decide +kernel
theorem containsL_any (s sub : ByteArray) (w : World) (hv : VarsL w) (hs : s.size ≤ 4000000) : Calls Tryz.prog 147 #[.string s, .string sub] w fun e w' => e = .returned (.bool (Lib.contains s.data.toList sub.data.toList)) ∧ w = w' := by
  obtain ⟨m, hm⟩ := hv.max
  exact (Tryz.strings_Contains s sub m w (by omega) hm).mono fun e w' ⟨he, hw⟩ => ⟨he, hw.symm⟩
theorem ib_any (s : ByteArray) (w : World) : Calls Tryz.prog 145 #[.string s, .int .u8 32] w fun e w' => e = .returned (.int .i64 (Lib.indexByte s.data.toList 32)) ∧ w = w' :=
  (Tryz.strings_IndexByte s 32 w).mono fun e w' ⟨he, hw⟩ => ⟨he, hw.symm⟩
theorem linesF_miss {w : World} {b : Nat} (h : FunAt w b linesF) {k : ByteArray} (h1 : k ≠ kPort) (h2 : k ≠ kName) (h3 : k ≠ kCook) : (Instr.lookup 186 (.map (some b)) (.string k) true).run Tryz.prog w = .ok (.tuple #[.nilFunc, .bool false]) w := by
  refine h.miss Tryz.underlying186 Tryz.underlying9 (by kernel_rfl) (fun v q => ?_)
  simp [linesF, h1, h2, h3] at q
set_option maxRecDepth 100000 in
set_option maxHeartbeats 4000000 in
theorem take_miss (B : Nat) (ln : Int) (s : RdS) (x : ByteArray) (w0 w : World) (h : RdAt w B ln s) (hx : x.size ≤ 65536)
    (h1 : x.extract 0 (keyLen x.data.toList) ≠ kPort) (h2 : x.extract 0 (keyLen x.data.toList) ≠ kName) (h3 : x.extract 0 (keyLen x.data.toList) ≠ kCook) :
    Calls Tryz.prog 116 #[.pointer (some ⟨B, 0, none⟩), .string x] w fun e w' => e = .panicked (toldL ln) ∧ Mod (fun k => B ≤ k) w w' := by
  have HMS := hid (fun W b (q : FunAt W b linesF) => linesF_miss q h1 h2 h3)
  clear h1 h2 h3
  obtain ⟨v, hB, hO⟩ := h
  have HB := hid hB; have HO := hid hO
  obtain ⟨kl, ki⟩ := key_le x.data.toList
  have hxl : x.data.toList.length = x.size := by rw [Array.length_toList]; rfl
  rw [hxl] at kl
  have HIB := hid (fun W => ib_any x W)
  have HLN := hid (fun W => lines_any W)
  obtain ⟨I, hI⟩ : ∃ I, I = keyLen x.data.toList := ⟨_, rfl⟩
  obtain ⟨J, hJ⟩ : ∃ J, J = Lib.indexByte x.data.toList 32 := ⟨_, rfl⟩
  rw [← hI] at kl ki HMS
  rw [← hJ] at ki HIB
  clear hB hO hI hJ hxl
  have dB := HB.out.lt
  go_enter Tryz.func116, Tryz.ntmps116
  go_wp2_with fail
  refine (HIB.out _).mono ?_
  rintro e w0' ⟨rfl, rfl⟩
  go_wp2_with fail
  go_region_held3 (fun w' => True) (trivial) ((go_at_call 146; refine (HLN.out _).mono ?_; rintro e w1 ⟨b, rfl, hf1, n1⟩; have lk := HMS.out w1 b hf1; have N1 : Hid (New w w1) := hid (((Mod.refl _ w).drew).trans n1); clear hf1 n1))
  go_wp2_with fail
  have HB1 := hid (N1.out.blk HB.out)
  have d3 := HB1.out.cellv 3 rfl; have d4 := HB1.out.cellv 4 rfl
  refine wp_region_held_drew (S := (fun _ => True)) (by kernel_rfl) trivial (fun hHeld => ?_)
  refine tk (v := ?_) 0 ?_ ?_
  rotate_left
  · intro w hSw
    (try dsimp only at hSw)
    first | (go_simp; done) | (go_simp; with_reducible rfl) | with_reducible rfl
  simp only [Act.put, List.setIfInBounds_toArray, List.set_cons_zero, List.set_cons_succ]
  refine tk (v := ?_) 1 ?_ ?_
  rotate_left
  · intro w hSw
    (try dsimp only at hSw)
    first | (go_simp; done) | (go_simp; with_reducible rfl) | with_reducible rfl
  simp only [Act.put, List.setIfInBounds_toArray, List.set_cons_zero, List.set_cons_succ]
  refine tk (v := ?_) 2 ?_ ?_
  rotate_left
  · intro w hSw
    (try dsimp only at hSw)
    first | (go_simp; done) | (go_simp; with_reducible rfl) | with_reducible rfl
  simp only [Act.put, List.setIfInBounds_toArray, List.set_cons_zero, List.set_cons_succ]
  refine sk 3 ?_
  simp only [Act.put, List.setIfInBounds_toArray, List.set_cons_zero, List.set_cons_succ]
  refine sk 4 ?_
  simp only [Act.put, List.setIfInBounds_toArray, List.set_cons_zero, List.set_cons_succ]
  refine sk 5 ?_
  simp only [Act.put, List.setIfInBounds_toArray, List.set_cons_zero, List.set_cons_succ]
  refine sk 6 ?_
  simp only [Act.put, List.setIfInBounds_toArray, List.set_cons_zero, List.set_cons_succ]
  refine sk 7 ?_
  simp only [Act.put, List.setIfInBounds_toArray, List.set_cons_zero, List.set_cons_succ]
  refine sk 8 ?_
  simp only [Act.put, List.setIfInBounds_toArray, List.set_cons_zero, List.set_cons_succ]
  refine sk 9 ?_
  simp only [Act.put, List.setIfInBounds_toArray, List.set_cons_zero, List.set_cons_succ]
  refine sk 10 ?_
  simp only [Act.put, List.setIfInBounds_toArray, List.set_cons_zero, List.set_cons_succ]
  refine sk 11 ?_
  simp only [Act.put, List.setIfInBounds_toArray, List.set_cons_zero, List.set_cons_succ]
  refine tk (v := ?_) 12 ?_ ?_
  rotate_left
  · intro w hSw
    (try dsimp only at hSw)
    first | (go_simp; done) | (go_simp; with_reducible rfl) | with_reducible rfl
  simp only [Act.put, List.setIfInBounds_toArray, List.set_cons_zero, List.set_cons_succ]
  refine tk (v := ?_) 13 ?_ ?_
  rotate_left
  · intro w hSw
    (try dsimp only at hSw)
    first | (go_simp; done) | (go_simp; with_reducible rfl) | with_reducible rfl
  simp only [Act.put, List.setIfInBounds_toArray, List.set_cons_zero, List.set_cons_succ]
  refine sk 14 ?_
  simp only [Act.put, List.setIfInBounds_toArray, List.set_cons_zero, List.set_cons_succ]
  refine sk 15 ?_
  simp only [Act.put, List.setIfInBounds_toArray, List.set_cons_zero, List.set_cons_succ]
  refine sk 16 ?_
  simp only [Act.put, List.setIfInBounds_toArray, List.set_cons_zero, List.set_cons_succ]
  refine sk 17 ?_
  simp only [Act.put, List.setIfInBounds_toArray, List.set_cons_zero, List.set_cons_succ]
  refine sk 18 ?_
  simp only [Act.put, List.setIfInBounds_toArray, List.set_cons_zero, List.set_cons_succ]
  refine sk 19 ?_
  simp only [Act.put, List.setIfInBounds_toArray, List.set_cons_zero, List.set_cons_succ]
  refine sk 20 ?_
  simp only [Act.put, List.setIfInBounds_toArray, List.set_cons_zero, List.set_cons_succ]
  refine tk (v := ?_) 21 ?_ ?_
  rotate_left
  · intro w hSw
    (try dsimp only at hSw)
    first | (go_simp; done) | (go_simp; with_reducible rfl) | with_reducible rfl
  simp only [Act.put, List.setIfInBounds_toArray, List.set_cons_zero, List.set_cons_succ]
  refine wpAnyH_done (by kernel_rfl) ?_ _
  go_wp2
  exact ⟨rfl, rfl, N1.out.mod.drew⟩
abbrev kPortN : FuncId := 161
abbrev kNameN : FuncId := 162
abbrev kCookN : FuncId := 164
theorem linesF_hitkPort {w : World} {b : Nat} (h : FunAt w b linesF) : (Instr.lookup 186 (.map (some b)) (.string kPort) true).run Tryz.prog w = .ok (.tuple #[.func (.func kPortN) #[] #[], .bool true]) w := by
  refine h.hit Tryz.underlying186 Tryz.underlying9 (by simp [linesF, kPortN]) (fun v q => ?_)
  simp [linesF, kPort, kName, kCook] at q
  exact q
theorem linesF_hitkName {w : World} {b : Nat} (h : FunAt w b linesF) : (Instr.lookup 186 (.map (some b)) (.string kName) true).run Tryz.prog w = .ok (.tuple #[.func (.func kNameN) #[] #[], .bool true]) w := by
  refine h.hit Tryz.underlying186 Tryz.underlying9 (by simp [linesF, kNameN]) (fun v q => ?_)
  simp [linesF, kPort, kName, kCook] at q
  exact q
theorem linesF_hitkCook {w : World} {b : Nat} (h : FunAt w b linesF) : (Instr.lookup 186 (.map (some b)) (.string kCook) true).run Tryz.prog w = .ok (.tuple #[.func (.func kCookN) #[] #[], .bool true]) w := by
  refine h.hit Tryz.underlying186 Tryz.underlying9 (by simp [linesF, kCookN]) (fun v q => ?_)
  simp [linesF, kPort, kName, kCook] at q
  exact q
/-- What the walks of take start from. -/
structure TkIn (w0 w : World) (B : Nat) (ln : Int) (s : RdS) (x : ByteArray) : Prop where
  vars : VarsL w0
  new : New w0 w
  low : w0.heap.size ≤ B
  few : s.names.length ≤ 20
  rd : RdAt w B ln s
  size : x.size ≤ 65536
set_option maxRecDepth 100000 in
set_option maxHeartbeats 4000000 in
theorem take_portNo (B : Nat) (ln : Int) (s : RdS) (x : ByteArray) (w0 w : World) (h : TkIn w0 w B ln s x) (hk : x.extract 0 (keyLen x.data.toList) = kPort) (hph : ¬ s.ph = 0) :
    Calls Tryz.prog 116 #[.pointer (some ⟨B, 0, none⟩), .string x] w fun e w' => e = .panicked (toldL ln) ∧ Mod (fun k => B ≤ k) w w' := by
  have H0 := hid h
  obtain ⟨hv, hn0, hB0, hl, ⟨v, hB, hO⟩, hx⟩ := h
  have HVN := hid (fun W (n : New w W) => hv.new (hn0.trans n))
  have HB := hid hB; have HO := hid hO; have HN0 := hid hn0; have HV := hid hv; have HL := hid hl
  obtain ⟨kl, ki⟩ := key_le x.data.toList
  have hxl : x.data.toList.length = x.size := by rw [Array.length_toList]; rfl
  rw [hxl] at kl
  have HIB := hid (fun W => ib_any x W)
  have HLN := hid (fun W => lines_any W)
  have HRE := hid (rest_ext x)
  obtain ⟨I, hI⟩ : ∃ I, I = keyLen x.data.toList := ⟨_, rfl⟩
  obtain ⟨J, hJ⟩ : ∃ J, J = Lib.indexByte x.data.toList 32 := ⟨_, rfl⟩
  rw [← hI] at kl ki hk HRE
  rw [← hJ] at ki HIB
  have HMS := hid (fun W b (q : FunAt W b linesF) => linesF_hitkPort q)
  rw [← hk] at HMS
  have hnz : (nextB s.ph).size ≤ 4000000 := by
    match s.ph with
    | 0 => decide
    | 1 => decide
    | 2 => decide
    | n + 3 => exact Nat.zero_le _
  have HC := hid (fun W (n : New w W) => containsL_any (nextB s.ph) (x.extract 0 I) W (hv.new (hn0.trans n)) hnz)
  have HI := hid hI
  clear hv hB hO hI hJ hxl hn0 hnz hl hB0
  have hcf : Lib.contains (nextB s.ph).data.toList (x.extract 0 I).data.toList = false := by
    rw [hk]
    exact (has_next s.ph).1.trans (decide_eq_false hph)
  rw [hcf] at HC
  obtain ⟨nx, hnx⟩ : ∃ nx, nx = nextB s.ph := ⟨_, rfl⟩
  rw [← hnx] at HC HB
  clear hcf hk hnx hph
  have dB := HB.out.lt
  go_enter Tryz.func116, Tryz.ntmps116
  go_wp2_with fail
  refine (HIB.out _).mono ?_
  rintro e w0' ⟨rfl, rfl⟩
  go_wp2_with fail
  go_region_held3 (fun w' => True) (trivial) ((go_at_call 146; refine (HLN.out _).mono ?_; rintro e w1 ⟨b, rfl, hf1, n1⟩; have lk := HMS.out w1 b hf1; have N1 : Hid (New w w1) := hid (((Mod.refl _ w).drew).trans n1); clear hf1 n1))
  go_wp2_with fail
  have HB1 := hid (N1.out.blk HB.out)
  have d3 := HB1.out.cellv 3 rfl; have d4 := HB1.out.cellv 4 rfl
  refine wp_region_held_drew (S := (fun _ => True)) (by kernel_rfl) trivial (fun hHeld => ?_)
  refine tk (v := ?_) 0 ?_ ?_
  rotate_left
  · intro w hSw
    (try dsimp only at hSw)
    first | (go_simp; done) | (go_simp; with_reducible rfl) | with_reducible rfl
  simp only [Act.put, List.setIfInBounds_toArray, List.set_cons_zero, List.set_cons_succ]
  refine tk (v := ?_) 1 ?_ ?_
  rotate_left
  · intro w hSw
    (try dsimp only at hSw)
    first | (go_simp; done) | (go_simp; with_reducible rfl) | with_reducible rfl
  simp only [Act.put, List.setIfInBounds_toArray, List.set_cons_zero, List.set_cons_succ]
  refine tk (v := ?_) 2 ?_ ?_
  rotate_left
  · intro w hSw
    (try dsimp only at hSw)
    first | (go_simp; done) | (go_simp; with_reducible rfl) | with_reducible rfl
  simp only [Act.put, List.setIfInBounds_toArray, List.set_cons_zero, List.set_cons_succ]
  refine tk (v := ?_) 3 ?_ ?_
  rotate_left
  · intro w hSw
    (try dsimp only at hSw)
    first | (go_simp; done) | (go_simp; with_reducible rfl) | with_reducible rfl
  simp only [Act.put, List.setIfInBounds_toArray, List.set_cons_zero, List.set_cons_succ]
  refine tk (v := ?_) 4 ?_ ?_
  rotate_left
  · intro w hSw
    (try dsimp only at hSw)
    first | (go_simp; done) | (go_simp; with_reducible rfl) | with_reducible rfl
  simp only [Act.put, List.setIfInBounds_toArray, List.set_cons_zero, List.set_cons_succ]
  refine tk (v := ?_) 5 ?_ ?_
  rotate_left
  · intro w hSw
    (try dsimp only at hSw)
    first | (go_simp; done) | (go_simp; with_reducible rfl) | with_reducible rfl
  simp only [Act.put, List.setIfInBounds_toArray, List.set_cons_zero, List.set_cons_succ]
  refine tk (v := ?_) 7 ?_ ?_
  rotate_left
  · intro w hSw
    (try dsimp only at hSw)
    first | (go_simp; done) | (go_simp; with_reducible rfl) | with_reducible rfl
  simp only [Act.put, List.setIfInBounds_toArray, List.set_cons_zero, List.set_cons_succ]
  refine tk (v := ?_) 8 ?_ ?_
  rotate_left
  · intro w hSw
    (try dsimp only at hSw)
    first | (go_simp; done) | (go_simp; with_reducible rfl) | with_reducible rfl
  simp only [Act.put, List.setIfInBounds_toArray, List.set_cons_zero, List.set_cons_succ]
  refine tk (v := ?_) 9 ?_ ?_
  rotate_left
  · intro w hSw
    (try dsimp only at hSw)
    first | (go_simp; done) | (go_simp; with_reducible rfl) | with_reducible rfl
  simp only [Act.put, List.setIfInBounds_toArray, List.set_cons_zero, List.set_cons_succ]
  refine wpAnyH_ready (rs := [6]) (by kernel_rfl) (by simp) ?_
  refine AllReadyH.cons (by simp only [List.getElem?_toArray, List.getElem?_cons_succ, List.getElem?_cons_zero]; rfl) (fun K hK => ?_) AllReadyH.nil
  go_simp
  refine hK.out _ _ trivial (fun hHeld6 => ?_)
  clear hK K hHeld6
  try simp only [Act.put, List.setIfInBounds_toArray, List.set_cons_zero, List.set_cons_succ]
  refine wpAnyH_ready (rs := [10]) (by kernel_rfl) (by simp) ?_
  refine AllReadyH.cons (by simp only [List.getElem?_toArray, List.getElem?_cons_succ, List.getElem?_cons_zero]; rfl) (fun K hK => ?_) AllReadyH.nil
  go_simp
  (go_at_call 147; refine (HC.out _ N1.out.drew).mono ?_; rintro e w2 ⟨rfl, rfl⟩)
  try dsimp only
  refine hK.out _ _ trivial (fun hHeld10 => ?_)
  clear hK K hHeld10
  try simp only [Act.put, List.setIfInBounds_toArray, List.set_cons_zero, List.set_cons_succ]
  refine tk (v := ?_) 11 ?_ ?_
  rotate_left
  · intro w hSw
    (try dsimp only at hSw)
    first | (go_simp; done) | (go_simp; with_reducible rfl) | with_reducible rfl
  simp only [Act.put, List.setIfInBounds_toArray, List.set_cons_zero, List.set_cons_succ]
  refine tk (v := ?_) 12 ?_ ?_
  rotate_left
  · intro w hSw
    (try dsimp only at hSw)
    first | (go_simp; done) | (go_simp; with_reducible rfl) | with_reducible rfl
  simp only [Act.put, List.setIfInBounds_toArray, List.set_cons_zero, List.set_cons_succ]
  refine tk (v := ?_) 13 ?_ ?_
  rotate_left
  · intro w hSw
    (try dsimp only at hSw)
    first | (go_simp; done) | (go_simp; with_reducible rfl) | with_reducible rfl
  simp only [Act.put, List.setIfInBounds_toArray, List.set_cons_zero, List.set_cons_succ]
  refine sk 14 ?_
  simp only [Act.put, List.setIfInBounds_toArray, List.set_cons_zero, List.set_cons_succ]
  refine sk 15 ?_
  simp only [Act.put, List.setIfInBounds_toArray, List.set_cons_zero, List.set_cons_succ]
  refine sk 16 ?_
  simp only [Act.put, List.setIfInBounds_toArray, List.set_cons_zero, List.set_cons_succ]
  refine sk 17 ?_
  simp only [Act.put, List.setIfInBounds_toArray, List.set_cons_zero, List.set_cons_succ]
  refine sk 18 ?_
  simp only [Act.put, List.setIfInBounds_toArray, List.set_cons_zero, List.set_cons_succ]
  refine sk 19 ?_
  simp only [Act.put, List.setIfInBounds_toArray, List.set_cons_zero, List.set_cons_succ]
  refine sk 20 ?_
  simp only [Act.put, List.setIfInBounds_toArray, List.set_cons_zero, List.set_cons_succ]
  refine tk (v := ?_) 21 ?_ ?_
  rotate_left
  · intro w hSw
    (try dsimp only at hSw)
    first | (go_simp; done) | (go_simp; with_reducible rfl) | with_reducible rfl
  simp only [Act.put, List.setIfInBounds_toArray, List.set_cons_zero, List.set_cons_succ]
  refine wpAnyH_done (by kernel_rfl) ?_ _
  go_wp2
  exact ⟨rfl, rfl, N1.out.mod.drew⟩
set_option maxRecDepth 100000 in
set_option maxHeartbeats 4000000 in
theorem take_nameNo (B : Nat) (ln : Int) (s : RdS) (x : ByteArray) (w0 w : World) (h : TkIn w0 w B ln s x) (hk : x.extract 0 (keyLen x.data.toList) = kName) (hph : ¬ (s.ph = 1 ∨ s.ph = 2)) :
    Calls Tryz.prog 116 #[.pointer (some ⟨B, 0, none⟩), .string x] w fun e w' => e = .panicked (toldL ln) ∧ Mod (fun k => B ≤ k) w w' := by
  have H0 := hid h
  obtain ⟨hv, hn0, hB0, hl, ⟨v, hB, hO⟩, hx⟩ := h
  have HVN := hid (fun W (n : New w W) => hv.new (hn0.trans n))
  have HB := hid hB; have HO := hid hO; have HN0 := hid hn0; have HV := hid hv; have HL := hid hl
  obtain ⟨kl, ki⟩ := key_le x.data.toList
  have hxl : x.data.toList.length = x.size := by rw [Array.length_toList]; rfl
  rw [hxl] at kl
  have HIB := hid (fun W => ib_any x W)
  have HLN := hid (fun W => lines_any W)
  have HRE := hid (rest_ext x)
  obtain ⟨I, hI⟩ : ∃ I, I = keyLen x.data.toList := ⟨_, rfl⟩
  obtain ⟨J, hJ⟩ : ∃ J, J = Lib.indexByte x.data.toList 32 := ⟨_, rfl⟩
  rw [← hI] at kl ki hk HRE
  rw [← hJ] at ki HIB
  have HMS := hid (fun W b (q : FunAt W b linesF) => linesF_hitkName q)
  rw [← hk] at HMS
  have hnz : (nextB s.ph).size ≤ 4000000 := by
    match s.ph with
    | 0 => decide
    | 1 => decide
    | 2 => decide
    | n + 3 => exact Nat.zero_le _
  have HC := hid (fun W (n : New w W) => containsL_any (nextB s.ph) (x.extract 0 I) W (hv.new (hn0.trans n)) hnz)
  have HI := hid hI
  clear hv hB hO hI hJ hxl hn0 hnz hl hB0
  have hcf : Lib.contains (nextB s.ph).data.toList (x.extract 0 I).data.toList = false := by
    rw [hk]
    exact (has_next s.ph).2.1.trans (decide_eq_false hph)
  rw [hcf] at HC
  obtain ⟨nx, hnx⟩ : ∃ nx, nx = nextB s.ph := ⟨_, rfl⟩
  rw [← hnx] at HC HB
  clear hcf hk hnx hph
  have dB := HB.out.lt
  go_enter Tryz.func116, Tryz.ntmps116
  go_wp2_with fail
  refine (HIB.out _).mono ?_
  rintro e w0' ⟨rfl, rfl⟩
  go_wp2_with fail
  go_region_held3 (fun w' => True) (trivial) ((go_at_call 146; refine (HLN.out _).mono ?_; rintro e w1 ⟨b, rfl, hf1, n1⟩; have lk := HMS.out w1 b hf1; have N1 : Hid (New w w1) := hid (((Mod.refl _ w).drew).trans n1); clear hf1 n1))
  go_wp2_with fail
  have HB1 := hid (N1.out.blk HB.out)
  have d3 := HB1.out.cellv 3 rfl; have d4 := HB1.out.cellv 4 rfl
  refine wp_region_held_drew (S := (fun _ => True)) (by kernel_rfl) trivial (fun hHeld => ?_)
  refine tk (v := ?_) 0 ?_ ?_
  rotate_left
  · intro w hSw
    (try dsimp only at hSw)
    first | (go_simp; done) | (go_simp; with_reducible rfl) | with_reducible rfl
  simp only [Act.put, List.setIfInBounds_toArray, List.set_cons_zero, List.set_cons_succ]
  refine tk (v := ?_) 1 ?_ ?_
  rotate_left
  · intro w hSw
    (try dsimp only at hSw)
    first | (go_simp; done) | (go_simp; with_reducible rfl) | with_reducible rfl
  simp only [Act.put, List.setIfInBounds_toArray, List.set_cons_zero, List.set_cons_succ]
  refine tk (v := ?_) 2 ?_ ?_
  rotate_left
  · intro w hSw
    (try dsimp only at hSw)
    first | (go_simp; done) | (go_simp; with_reducible rfl) | with_reducible rfl
  simp only [Act.put, List.setIfInBounds_toArray, List.set_cons_zero, List.set_cons_succ]
  refine tk (v := ?_) 3 ?_ ?_
  rotate_left
  · intro w hSw
    (try dsimp only at hSw)
    first | (go_simp; done) | (go_simp; with_reducible rfl) | with_reducible rfl
  simp only [Act.put, List.setIfInBounds_toArray, List.set_cons_zero, List.set_cons_succ]
  refine tk (v := ?_) 4 ?_ ?_
  rotate_left
  · intro w hSw
    (try dsimp only at hSw)
    first | (go_simp; done) | (go_simp; with_reducible rfl) | with_reducible rfl
  simp only [Act.put, List.setIfInBounds_toArray, List.set_cons_zero, List.set_cons_succ]
  refine tk (v := ?_) 5 ?_ ?_
  rotate_left
  · intro w hSw
    (try dsimp only at hSw)
    first | (go_simp; done) | (go_simp; with_reducible rfl) | with_reducible rfl
  simp only [Act.put, List.setIfInBounds_toArray, List.set_cons_zero, List.set_cons_succ]
  refine tk (v := ?_) 7 ?_ ?_
  rotate_left
  · intro w hSw
    (try dsimp only at hSw)
    first | (go_simp; done) | (go_simp; with_reducible rfl) | with_reducible rfl
  simp only [Act.put, List.setIfInBounds_toArray, List.set_cons_zero, List.set_cons_succ]
  refine tk (v := ?_) 8 ?_ ?_
  rotate_left
  · intro w hSw
    (try dsimp only at hSw)
    first | (go_simp; done) | (go_simp; with_reducible rfl) | with_reducible rfl
  simp only [Act.put, List.setIfInBounds_toArray, List.set_cons_zero, List.set_cons_succ]
  refine tk (v := ?_) 9 ?_ ?_
  rotate_left
  · intro w hSw
    (try dsimp only at hSw)
    first | (go_simp; done) | (go_simp; with_reducible rfl) | with_reducible rfl
  simp only [Act.put, List.setIfInBounds_toArray, List.set_cons_zero, List.set_cons_succ]
  refine wpAnyH_ready (rs := [6]) (by kernel_rfl) (by simp) ?_
  refine AllReadyH.cons (by simp only [List.getElem?_toArray, List.getElem?_cons_succ, List.getElem?_cons_zero]; rfl) (fun K hK => ?_) AllReadyH.nil
  go_simp
  refine hK.out _ _ trivial (fun hHeld6 => ?_)
  clear hK K hHeld6
  try simp only [Act.put, List.setIfInBounds_toArray, List.set_cons_zero, List.set_cons_succ]
  refine wpAnyH_ready (rs := [10]) (by kernel_rfl) (by simp) ?_
  refine AllReadyH.cons (by simp only [List.getElem?_toArray, List.getElem?_cons_succ, List.getElem?_cons_zero]; rfl) (fun K hK => ?_) AllReadyH.nil
  go_simp
  (go_at_call 147; refine (HC.out _ N1.out.drew).mono ?_; rintro e w2 ⟨rfl, rfl⟩)
  try dsimp only
  refine hK.out _ _ trivial (fun hHeld10 => ?_)
  clear hK K hHeld10
  try simp only [Act.put, List.setIfInBounds_toArray, List.set_cons_zero, List.set_cons_succ]
  refine tk (v := ?_) 11 ?_ ?_
  rotate_left
  · intro w hSw
    (try dsimp only at hSw)
    first | (go_simp; done) | (go_simp; with_reducible rfl) | with_reducible rfl
  simp only [Act.put, List.setIfInBounds_toArray, List.set_cons_zero, List.set_cons_succ]
  refine tk (v := ?_) 12 ?_ ?_
  rotate_left
  · intro w hSw
    (try dsimp only at hSw)
    first | (go_simp; done) | (go_simp; with_reducible rfl) | with_reducible rfl
  simp only [Act.put, List.setIfInBounds_toArray, List.set_cons_zero, List.set_cons_succ]
  refine tk (v := ?_) 13 ?_ ?_
  rotate_left
  · intro w hSw
    (try dsimp only at hSw)
    first | (go_simp; done) | (go_simp; with_reducible rfl) | with_reducible rfl
  simp only [Act.put, List.setIfInBounds_toArray, List.set_cons_zero, List.set_cons_succ]
  refine sk 14 ?_
  simp only [Act.put, List.setIfInBounds_toArray, List.set_cons_zero, List.set_cons_succ]
  refine sk 15 ?_
  simp only [Act.put, List.setIfInBounds_toArray, List.set_cons_zero, List.set_cons_succ]
  refine sk 16 ?_
  simp only [Act.put, List.setIfInBounds_toArray, List.set_cons_zero, List.set_cons_succ]
  refine sk 17 ?_
  simp only [Act.put, List.setIfInBounds_toArray, List.set_cons_zero, List.set_cons_succ]
  refine sk 18 ?_
  simp only [Act.put, List.setIfInBounds_toArray, List.set_cons_zero, List.set_cons_succ]
  refine sk 19 ?_
  simp only [Act.put, List.setIfInBounds_toArray, List.set_cons_zero, List.set_cons_succ]
  refine sk 20 ?_
  simp only [Act.put, List.setIfInBounds_toArray, List.set_cons_zero, List.set_cons_succ]
  refine tk (v := ?_) 21 ?_ ?_
  rotate_left
  · intro w hSw
    (try dsimp only at hSw)
    first | (go_simp; done) | (go_simp; with_reducible rfl) | with_reducible rfl
  simp only [Act.put, List.setIfInBounds_toArray, List.set_cons_zero, List.set_cons_succ]
  refine wpAnyH_done (by kernel_rfl) ?_ _
  go_wp2
  exact ⟨rfl, rfl, N1.out.mod.drew⟩
set_option maxRecDepth 100000 in
set_option maxHeartbeats 4000000 in
theorem take_cookNo (B : Nat) (ln : Int) (s : RdS) (x : ByteArray) (w0 w : World) (h : TkIn w0 w B ln s x) (hk : x.extract 0 (keyLen x.data.toList) = kCook) (hph : ¬ s.ph = 2) :
    Calls Tryz.prog 116 #[.pointer (some ⟨B, 0, none⟩), .string x] w fun e w' => e = .panicked (toldL ln) ∧ Mod (fun k => B ≤ k) w w' := by
  have H0 := hid h
  obtain ⟨hv, hn0, hB0, hl, ⟨v, hB, hO⟩, hx⟩ := h
  have HVN := hid (fun W (n : New w W) => hv.new (hn0.trans n))
  have HB := hid hB; have HO := hid hO; have HN0 := hid hn0; have HV := hid hv; have HL := hid hl
  obtain ⟨kl, ki⟩ := key_le x.data.toList
  have hxl : x.data.toList.length = x.size := by rw [Array.length_toList]; rfl
  rw [hxl] at kl
  have HIB := hid (fun W => ib_any x W)
  have HLN := hid (fun W => lines_any W)
  have HRE := hid (rest_ext x)
  obtain ⟨I, hI⟩ : ∃ I, I = keyLen x.data.toList := ⟨_, rfl⟩
  obtain ⟨J, hJ⟩ : ∃ J, J = Lib.indexByte x.data.toList 32 := ⟨_, rfl⟩
  rw [← hI] at kl ki hk HRE
  rw [← hJ] at ki HIB
  have HMS := hid (fun W b (q : FunAt W b linesF) => linesF_hitkCook q)
  rw [← hk] at HMS
  have hnz : (nextB s.ph).size ≤ 4000000 := by
    match s.ph with
    | 0 => decide
    | 1 => decide
    | 2 => decide
    | n + 3 => exact Nat.zero_le _
  have HC := hid (fun W (n : New w W) => containsL_any (nextB s.ph) (x.extract 0 I) W (hv.new (hn0.trans n)) hnz)
  have HI := hid hI
  clear hv hB hO hI hJ hxl hn0 hnz hl hB0
  have hcf : Lib.contains (nextB s.ph).data.toList (x.extract 0 I).data.toList = false := by
    rw [hk]
    exact (has_next s.ph).2.2.trans (decide_eq_false hph)
  rw [hcf] at HC
  obtain ⟨nx, hnx⟩ : ∃ nx, nx = nextB s.ph := ⟨_, rfl⟩
  rw [← hnx] at HC HB
  clear hcf hk hnx hph
  have dB := HB.out.lt
  go_enter Tryz.func116, Tryz.ntmps116
  go_wp2_with fail
  refine (HIB.out _).mono ?_
  rintro e w0' ⟨rfl, rfl⟩
  go_wp2_with fail
  go_region_held3 (fun w' => True) (trivial) ((go_at_call 146; refine (HLN.out _).mono ?_; rintro e w1 ⟨b, rfl, hf1, n1⟩; have lk := HMS.out w1 b hf1; have N1 : Hid (New w w1) := hid (((Mod.refl _ w).drew).trans n1); clear hf1 n1))
  go_wp2_with fail
  have HB1 := hid (N1.out.blk HB.out)
  have d3 := HB1.out.cellv 3 rfl; have d4 := HB1.out.cellv 4 rfl
  refine wp_region_held_drew (S := (fun _ => True)) (by kernel_rfl) trivial (fun hHeld => ?_)
  refine tk (v := ?_) 0 ?_ ?_
  rotate_left
  · intro w hSw
    (try dsimp only at hSw)
    first | (go_simp; done) | (go_simp; with_reducible rfl) | with_reducible rfl
  simp only [Act.put, List.setIfInBounds_toArray, List.set_cons_zero, List.set_cons_succ]
  refine tk (v := ?_) 1 ?_ ?_
  rotate_left
  · intro w hSw
    (try dsimp only at hSw)
    first | (go_simp; done) | (go_simp; with_reducible rfl) | with_reducible rfl
  simp only [Act.put, List.setIfInBounds_toArray, List.set_cons_zero, List.set_cons_succ]
  refine tk (v := ?_) 2 ?_ ?_
  rotate_left
  · intro w hSw
    (try dsimp only at hSw)
    first | (go_simp; done) | (go_simp; with_reducible rfl) | with_reducible rfl
  simp only [Act.put, List.setIfInBounds_toArray, List.set_cons_zero, List.set_cons_succ]
  refine tk (v := ?_) 3 ?_ ?_
  rotate_left
  · intro w hSw
    (try dsimp only at hSw)
    first | (go_simp; done) | (go_simp; with_reducible rfl) | with_reducible rfl
  simp only [Act.put, List.setIfInBounds_toArray, List.set_cons_zero, List.set_cons_succ]
  refine tk (v := ?_) 4 ?_ ?_
  rotate_left
  · intro w hSw
    (try dsimp only at hSw)
    first | (go_simp; done) | (go_simp; with_reducible rfl) | with_reducible rfl
  simp only [Act.put, List.setIfInBounds_toArray, List.set_cons_zero, List.set_cons_succ]
  refine tk (v := ?_) 5 ?_ ?_
  rotate_left
  · intro w hSw
    (try dsimp only at hSw)
    first | (go_simp; done) | (go_simp; with_reducible rfl) | with_reducible rfl
  simp only [Act.put, List.setIfInBounds_toArray, List.set_cons_zero, List.set_cons_succ]
  refine tk (v := ?_) 7 ?_ ?_
  rotate_left
  · intro w hSw
    (try dsimp only at hSw)
    first | (go_simp; done) | (go_simp; with_reducible rfl) | with_reducible rfl
  simp only [Act.put, List.setIfInBounds_toArray, List.set_cons_zero, List.set_cons_succ]
  refine tk (v := ?_) 8 ?_ ?_
  rotate_left
  · intro w hSw
    (try dsimp only at hSw)
    first | (go_simp; done) | (go_simp; with_reducible rfl) | with_reducible rfl
  simp only [Act.put, List.setIfInBounds_toArray, List.set_cons_zero, List.set_cons_succ]
  refine tk (v := ?_) 9 ?_ ?_
  rotate_left
  · intro w hSw
    (try dsimp only at hSw)
    first | (go_simp; done) | (go_simp; with_reducible rfl) | with_reducible rfl
  simp only [Act.put, List.setIfInBounds_toArray, List.set_cons_zero, List.set_cons_succ]
  refine wpAnyH_ready (rs := [6]) (by kernel_rfl) (by simp) ?_
  refine AllReadyH.cons (by simp only [List.getElem?_toArray, List.getElem?_cons_succ, List.getElem?_cons_zero]; rfl) (fun K hK => ?_) AllReadyH.nil
  go_simp
  refine hK.out _ _ trivial (fun hHeld6 => ?_)
  clear hK K hHeld6
  try simp only [Act.put, List.setIfInBounds_toArray, List.set_cons_zero, List.set_cons_succ]
  refine wpAnyH_ready (rs := [10]) (by kernel_rfl) (by simp) ?_
  refine AllReadyH.cons (by simp only [List.getElem?_toArray, List.getElem?_cons_succ, List.getElem?_cons_zero]; rfl) (fun K hK => ?_) AllReadyH.nil
  go_simp
  (go_at_call 147; refine (HC.out _ N1.out.drew).mono ?_; rintro e w2 ⟨rfl, rfl⟩)
  try dsimp only
  refine hK.out _ _ trivial (fun hHeld10 => ?_)
  clear hK K hHeld10
  try simp only [Act.put, List.setIfInBounds_toArray, List.set_cons_zero, List.set_cons_succ]
  refine tk (v := ?_) 11 ?_ ?_
  rotate_left
  · intro w hSw
    (try dsimp only at hSw)
    first | (go_simp; done) | (go_simp; with_reducible rfl) | with_reducible rfl
  simp only [Act.put, List.setIfInBounds_toArray, List.set_cons_zero, List.set_cons_succ]
  refine tk (v := ?_) 12 ?_ ?_
  rotate_left
  · intro w hSw
    (try dsimp only at hSw)
    first | (go_simp; done) | (go_simp; with_reducible rfl) | with_reducible rfl
  simp only [Act.put, List.setIfInBounds_toArray, List.set_cons_zero, List.set_cons_succ]
  refine tk (v := ?_) 13 ?_ ?_
  rotate_left
  · intro w hSw
    (try dsimp only at hSw)
    first | (go_simp; done) | (go_simp; with_reducible rfl) | with_reducible rfl
  simp only [Act.put, List.setIfInBounds_toArray, List.set_cons_zero, List.set_cons_succ]
  refine sk 14 ?_
  simp only [Act.put, List.setIfInBounds_toArray, List.set_cons_zero, List.set_cons_succ]
  refine sk 15 ?_
  simp only [Act.put, List.setIfInBounds_toArray, List.set_cons_zero, List.set_cons_succ]
  refine sk 16 ?_
  simp only [Act.put, List.setIfInBounds_toArray, List.set_cons_zero, List.set_cons_succ]
  refine sk 17 ?_
  simp only [Act.put, List.setIfInBounds_toArray, List.set_cons_zero, List.set_cons_succ]
  refine sk 18 ?_
  simp only [Act.put, List.setIfInBounds_toArray, List.set_cons_zero, List.set_cons_succ]
  refine sk 19 ?_
  simp only [Act.put, List.setIfInBounds_toArray, List.set_cons_zero, List.set_cons_succ]
  refine sk 20 ?_
  simp only [Act.put, List.setIfInBounds_toArray, List.set_cons_zero, List.set_cons_succ]
  refine tk (v := ?_) 21 ?_ ?_
  rotate_left
  · intro w hSw
    (try dsimp only at hSw)
    first | (go_simp; done) | (go_simp; with_reducible rfl) | with_reducible rfl
  simp only [Act.put, List.setIfInBounds_toArray, List.set_cons_zero, List.set_cons_succ]
  refine wpAnyH_done (by kernel_rfl) ?_ _
  go_wp2
  exact ⟨rfl, rfl, N1.out.mod.drew⟩
set_option maxRecDepth 100000 in
set_option maxHeartbeats 4000000 in
theorem take_portYes (B : Nat) (ln : Int) (s : RdS) (x : ByteArray) (w0 w : World) (h : TkIn w0 w B ln s x) (hk : x.extract 0 (keyLen x.data.toList) = kPort) (hph : s.ph = 0) (o : Option RdS)
    (ho : o = (match portP (x.data.toList.drop (keyLen x.data.toList)) with
      | some n => some { s with port := n, ph := 1 }
      | none => none)) :
    Calls Tryz.prog 116 #[.pointer (some ⟨B, 0, none⟩), .string x] w fun e w' => TkOut B ln o e w' ∧ Mod (fun k => B ≤ k) w w' := by
  have H0 := hid h
  obtain ⟨hv, hn0, hB0, hl, ⟨v, hB, hO⟩, hx⟩ := h
  have HVN := hid (fun W (n : New w W) => hv.new (hn0.trans n))
  have HB := hid hB; have HO := hid hO; have HN0 := hid hn0; have HV := hid hv; have HL := hid hl
  obtain ⟨kl, ki⟩ := key_le x.data.toList
  have hxl : x.data.toList.length = x.size := by rw [Array.length_toList]; rfl
  rw [hxl] at kl
  have HIB := hid (fun W => ib_any x W)
  have HLN := hid (fun W => lines_any W)
  have HRE := hid (rest_ext x)
  obtain ⟨I, hI⟩ : ∃ I, I = keyLen x.data.toList := ⟨_, rfl⟩
  obtain ⟨J, hJ⟩ : ∃ J, J = Lib.indexByte x.data.toList 32 := ⟨_, rfl⟩
  rw [← hI] at kl ki hk HRE
  rw [← hJ] at ki HIB
  have HMS := hid (fun W b (q : FunAt W b linesF) => linesF_hitkPort q)
  rw [← hk] at HMS
  have hnz : (nextB s.ph).size ≤ 4000000 := by
    match s.ph with
    | 0 => decide
    | 1 => decide
    | 2 => decide
    | n + 3 => exact Nat.zero_le _
  have HC := hid (fun W (n : New w W) => containsL_any (nextB s.ph) (x.extract 0 I) W (hv.new (hn0.trans n)) hnz)
  have HI := hid hI
  clear hv hB hO hI hJ hxl hn0 hnz hl hB0
  have hrs : (x.extract I x.size).size ≤ 65536 := by
    rw [ByteArray.size_extract]
    omega
  have hcf : Lib.contains (nextB s.ph).data.toList (x.extract 0 I).data.toList = true := by
    rw [hk]
    exact (has_next s.ph).1.trans (decide_eq_true hph)
  rw [hcf] at HC
  rw [← HI.out] at ho
  obtain ⟨r, hr⟩ : ∃ r, r = x.data.toList.drop I := ⟨_, rfl⟩
  rw [← hr] at ho HRE
  obtain ⟨R, hR⟩ : ∃ R, R = x.extract I x.size := ⟨_, rfl⟩
  rw [← hR] at HRE hrs
  have HRR := hid hR
  clear hcf hr hR
  have HK0 := hid (fun W (n : New w W) hb => k1_any B s.port v s.cookie (nextB s.ph) R ln w0 W H0.out.vars (H0.out.new.trans n) H0.out.low hb hrs)
  rw [HRE.out] at HK0
  have HAV := hid (fun n (q : portP r = some n) => portP_val q)
  rw [HRR.out] at HK0
  obtain ⟨nx, hnx⟩ : ∃ nx, nx = nextB s.ph := ⟨_, rfl⟩
  rw [← hnx] at HC HB HK0
  clear hk hnx hrs
  cases hp : portP r with
  | none =>
    rw [hp] at ho HK0
    subst ho
    clear hp hph
    simp only [Option.isSome_none] at HK0
    have dB := HB.out.lt
    go_enter Tryz.func116, Tryz.ntmps116
    go_wp2_with fail
    refine (HIB.out _).mono ?_
    rintro e w0' ⟨rfl, rfl⟩
    go_wp2_with fail
    go_region_held3 (fun w' => True) (trivial) ((go_at_call 146; refine (HLN.out _).mono ?_; rintro e w1 ⟨b, rfl, hf1, n1⟩; have lk := HMS.out w1 b hf1; have N1 : Hid (New w w1) := hid (((Mod.refl _ w).drew).trans n1); clear hf1 n1))
    go_wp2_with fail
    have HB1 := hid (N1.out.blk HB.out)
    have HO1 := hid (HO.out.new N1.out)
    have d3 := HB1.out.cellv 3 rfl; have d4 := HB1.out.cellv 4 rfl
    refine wp_region_held_drew (S := (fun _ => True)) (by kernel_rfl) trivial (fun hHeld => ?_)
    refine tk (v := ?_) 0 ?_ ?_
    rotate_left
    · intro w hSw
      (try dsimp only at hSw)
      first | (go_simp; done) | (go_simp; with_reducible rfl) | with_reducible rfl
    simp only [Act.put, List.setIfInBounds_toArray, List.set_cons_zero, List.set_cons_succ]
    refine tk (v := ?_) 1 ?_ ?_
    rotate_left
    · intro w hSw
      (try dsimp only at hSw)
      first | (go_simp; done) | (go_simp; with_reducible rfl) | with_reducible rfl
    simp only [Act.put, List.setIfInBounds_toArray, List.set_cons_zero, List.set_cons_succ]
    refine tk (v := ?_) 2 ?_ ?_
    rotate_left
    · intro w hSw
      (try dsimp only at hSw)
      first | (go_simp; done) | (go_simp; with_reducible rfl) | with_reducible rfl
    simp only [Act.put, List.setIfInBounds_toArray, List.set_cons_zero, List.set_cons_succ]
    refine tk (v := ?_) 3 ?_ ?_
    rotate_left
    · intro w hSw
      (try dsimp only at hSw)
      first | (go_simp; done) | (go_simp; with_reducible rfl) | with_reducible rfl
    simp only [Act.put, List.setIfInBounds_toArray, List.set_cons_zero, List.set_cons_succ]
    refine tk (v := ?_) 4 ?_ ?_
    rotate_left
    · intro w hSw
      (try dsimp only at hSw)
      first | (go_simp; done) | (go_simp; with_reducible rfl) | with_reducible rfl
    simp only [Act.put, List.setIfInBounds_toArray, List.set_cons_zero, List.set_cons_succ]
    refine tk (v := ?_) 5 ?_ ?_
    rotate_left
    · intro w hSw
      (try dsimp only at hSw)
      first | (go_simp; done) | (go_simp; with_reducible rfl) | with_reducible rfl
    simp only [Act.put, List.setIfInBounds_toArray, List.set_cons_zero, List.set_cons_succ]
    refine tk (v := ?_) 7 ?_ ?_
    rotate_left
    · intro w hSw
      (try dsimp only at hSw)
      first | (go_simp; done) | (go_simp; with_reducible rfl) | with_reducible rfl
    simp only [Act.put, List.setIfInBounds_toArray, List.set_cons_zero, List.set_cons_succ]
    refine tk (v := ?_) 8 ?_ ?_
    rotate_left
    · intro w hSw
      (try dsimp only at hSw)
      first | (go_simp; done) | (go_simp; with_reducible rfl) | with_reducible rfl
    simp only [Act.put, List.setIfInBounds_toArray, List.set_cons_zero, List.set_cons_succ]
    refine tk (v := ?_) 9 ?_ ?_
    rotate_left
    · intro w hSw
      (try dsimp only at hSw)
      first | (go_simp; done) | (go_simp; with_reducible rfl) | with_reducible rfl
    simp only [Act.put, List.setIfInBounds_toArray, List.set_cons_zero, List.set_cons_succ]
    refine wpAnyH_ready (rs := [6]) (by kernel_rfl) (by simp) ?_
    refine AllReadyH.cons (by simp only [List.getElem?_toArray, List.getElem?_cons_succ, List.getElem?_cons_zero]; rfl) (fun K hK => ?_) AllReadyH.nil
    go_simp
    refine hK.out _ _ trivial (fun hHeld6 => ?_)
    clear hK K hHeld6
    try simp only [Act.put, List.setIfInBounds_toArray, List.set_cons_zero, List.set_cons_succ]
    refine wpAnyH_ready (rs := [10]) (by kernel_rfl) (by simp) ?_
    refine AllReadyH.cons (by simp only [List.getElem?_toArray, List.getElem?_cons_succ, List.getElem?_cons_zero]; rfl) (fun K hK => ?_) AllReadyH.nil
    go_simp
    (go_at_call 147; refine (HC.out _ N1.out.drew).mono ?_; rintro e w2 ⟨rfl, rfl⟩)
    try dsimp only
    refine hK.out _ _ trivial (fun hHeld10 => ?_)
    clear hK K hHeld10
    try simp only [Act.put, List.setIfInBounds_toArray, List.set_cons_zero, List.set_cons_succ]
    refine tk (v := ?_) 11 ?_ ?_
    rotate_left
    · intro w hSw
      (try dsimp only at hSw)
      first | (go_simp; done) | (go_simp; with_reducible rfl) | with_reducible rfl
    simp only [Act.put, List.setIfInBounds_toArray, List.set_cons_zero, List.set_cons_succ]
    refine tk (v := ?_) 12 ?_ ?_
    rotate_left
    · intro w hSw
      (try dsimp only at hSw)
      first | (go_simp; done) | (go_simp; with_reducible rfl) | with_reducible rfl
    simp only [Act.put, List.setIfInBounds_toArray, List.set_cons_zero, List.set_cons_succ]
    refine tk (v := ?_) 13 ?_ ?_
    rotate_left
    · intro w hSw
      (try dsimp only at hSw)
      first | (go_simp; done) | (go_simp; with_reducible rfl) | with_reducible rfl
    simp only [Act.put, List.setIfInBounds_toArray, List.set_cons_zero, List.set_cons_succ]
    refine tk (v := ?_) 14 ?_ ?_
    rotate_left
    · intro w hSw
      (try dsimp only at hSw)
      first | (go_simp; done) | (go_simp; with_reducible rfl) | with_reducible rfl
    simp only [Act.put, List.setIfInBounds_toArray, List.set_cons_zero, List.set_cons_succ]
    refine tk (v := ?_) 15 ?_ ?_
    rotate_left
    · intro w hSw
      (try dsimp only at hSw)
      first | (go_simp; done) | (go_simp; with_reducible rfl) | with_reducible rfl
    simp only [Act.put, List.setIfInBounds_toArray, List.set_cons_zero, List.set_cons_succ]
    refine tk (v := ?_) 16 ?_ ?_
    rotate_left
    · intro w hSw
      (try dsimp only at hSw)
      first | (go_simp; done) | (go_simp; with_reducible rfl) | with_reducible rfl
    simp only [Act.put, List.setIfInBounds_toArray, List.set_cons_zero, List.set_cons_succ]
    refine tk (v := ?_) 17 ?_ ?_
    rotate_left
    · intro w hSw
      (try dsimp only at hSw)
      first | (go_simp; done) | (go_simp; with_reducible rfl) | with_reducible rfl
    simp only [Act.put, List.setIfInBounds_toArray, List.set_cons_zero, List.set_cons_succ]
    refine tk (v := ?_) 18 ?_ ?_
    rotate_left
    · intro w hSw
      (try dsimp only at hSw)
      first | (go_simp; done) | (go_simp; with_reducible rfl) | with_reducible rfl
    simp only [Act.put, List.setIfInBounds_toArray, List.set_cons_zero, List.set_cons_succ]
    refine wpAnyH_ready (rs := [19]) (by kernel_rfl) (by simp) ?_
    refine AllReadyH.cons (by simp only [List.getElem?_toArray, List.getElem?_cons_succ, List.getElem?_cons_zero]; rfl) (fun K hK => ?_) AllReadyH.nil
    go_simp
    (go_at_call 161; refine (HK0.out _ N1.out.drew HB1.out).mono ?_; rintro e w3 ⟨rfl, b3, m3⟩; have B3 := hid b3; have M3 : Hid (Mod (fun k => k = B) w w3) := hid ((New.mod (S := fun k => k = B) N1.out.drew).trans m3); have O3 := hid (OwnT.mod (HO.out.new N1.out.drew) m3 (fun k q1 q2 q3 => by omega)); clear b3 m3)
    try dsimp only
    refine hK.out _ _ trivial (fun hHeld19 => ?_)
    clear hK K hHeld19
    try simp only [Act.put, List.setIfInBounds_toArray, List.set_cons_zero, List.set_cons_succ]
    refine tk (v := ?_) 20 ?_ ?_
    rotate_left
    · intro w hSw
      (try dsimp only at hSw)
      first | (go_simp; done) | (go_simp; with_reducible rfl) | with_reducible rfl
    simp only [Act.put, List.setIfInBounds_toArray, List.set_cons_zero, List.set_cons_succ]
    refine tk (v := ?_) 21 ?_ ?_
    rotate_left
    · intro w hSw
      (try dsimp only at hSw)
      first | (go_simp; done) | (go_simp; with_reducible rfl) | with_reducible rfl
    simp only [Act.put, List.setIfInBounds_toArray, List.set_cons_zero, List.set_cons_succ]
    refine wpAnyH_done (by kernel_rfl) ?_ _
    have d3 := B3.out.cellv 3 rfl
    clear d4
    go_wp2
    exact ⟨rfl, rfl, (M3.out.mono (fun k _ q => by (show B ≤ k; omega)))⟩
  | some n =>
    rw [hp] at ho HK0
    rw [HAV.out n hp] at HK0
    subst ho
    clear hp hph
    simp only [Option.isSome_some] at HK0
    have dB := HB.out.lt
    go_enter Tryz.func116, Tryz.ntmps116
    go_wp2_with fail
    refine (HIB.out _).mono ?_
    rintro e w0' ⟨rfl, rfl⟩
    go_wp2_with fail
    go_region_held3 (fun w' => True) (trivial) ((go_at_call 146; refine (HLN.out _).mono ?_; rintro e w1 ⟨b, rfl, hf1, n1⟩; have lk := HMS.out w1 b hf1; have N1 : Hid (New w w1) := hid (((Mod.refl _ w).drew).trans n1); clear hf1 n1))
    go_wp2_with fail
    have HB1 := hid (N1.out.blk HB.out)
    have HO1 := hid (HO.out.new N1.out)
    have d3 := HB1.out.cellv 3 rfl; have d4 := HB1.out.cellv 4 rfl
    refine wp_region_held_drew (S := (fun _ => True)) (by kernel_rfl) trivial (fun hHeld => ?_)
    refine tk (v := ?_) 0 ?_ ?_
    rotate_left
    · intro w hSw
      (try dsimp only at hSw)
      first | (go_simp; done) | (go_simp; with_reducible rfl) | with_reducible rfl
    simp only [Act.put, List.setIfInBounds_toArray, List.set_cons_zero, List.set_cons_succ]
    refine tk (v := ?_) 1 ?_ ?_
    rotate_left
    · intro w hSw
      (try dsimp only at hSw)
      first | (go_simp; done) | (go_simp; with_reducible rfl) | with_reducible rfl
    simp only [Act.put, List.setIfInBounds_toArray, List.set_cons_zero, List.set_cons_succ]
    refine tk (v := ?_) 2 ?_ ?_
    rotate_left
    · intro w hSw
      (try dsimp only at hSw)
      first | (go_simp; done) | (go_simp; with_reducible rfl) | with_reducible rfl
    simp only [Act.put, List.setIfInBounds_toArray, List.set_cons_zero, List.set_cons_succ]
    refine tk (v := ?_) 3 ?_ ?_
    rotate_left
    · intro w hSw
      (try dsimp only at hSw)
      first | (go_simp; done) | (go_simp; with_reducible rfl) | with_reducible rfl
    simp only [Act.put, List.setIfInBounds_toArray, List.set_cons_zero, List.set_cons_succ]
    refine tk (v := ?_) 4 ?_ ?_
    rotate_left
    · intro w hSw
      (try dsimp only at hSw)
      first | (go_simp; done) | (go_simp; with_reducible rfl) | with_reducible rfl
    simp only [Act.put, List.setIfInBounds_toArray, List.set_cons_zero, List.set_cons_succ]
    refine tk (v := ?_) 5 ?_ ?_
    rotate_left
    · intro w hSw
      (try dsimp only at hSw)
      first | (go_simp; done) | (go_simp; with_reducible rfl) | with_reducible rfl
    simp only [Act.put, List.setIfInBounds_toArray, List.set_cons_zero, List.set_cons_succ]
    refine tk (v := ?_) 7 ?_ ?_
    rotate_left
    · intro w hSw
      (try dsimp only at hSw)
      first | (go_simp; done) | (go_simp; with_reducible rfl) | with_reducible rfl
    simp only [Act.put, List.setIfInBounds_toArray, List.set_cons_zero, List.set_cons_succ]
    refine tk (v := ?_) 8 ?_ ?_
    rotate_left
    · intro w hSw
      (try dsimp only at hSw)
      first | (go_simp; done) | (go_simp; with_reducible rfl) | with_reducible rfl
    simp only [Act.put, List.setIfInBounds_toArray, List.set_cons_zero, List.set_cons_succ]
    refine tk (v := ?_) 9 ?_ ?_
    rotate_left
    · intro w hSw
      (try dsimp only at hSw)
      first | (go_simp; done) | (go_simp; with_reducible rfl) | with_reducible rfl
    simp only [Act.put, List.setIfInBounds_toArray, List.set_cons_zero, List.set_cons_succ]
    refine wpAnyH_ready (rs := [6]) (by kernel_rfl) (by simp) ?_
    refine AllReadyH.cons (by simp only [List.getElem?_toArray, List.getElem?_cons_succ, List.getElem?_cons_zero]; rfl) (fun K hK => ?_) AllReadyH.nil
    go_simp
    refine hK.out _ _ trivial (fun hHeld6 => ?_)
    clear hK K hHeld6
    try simp only [Act.put, List.setIfInBounds_toArray, List.set_cons_zero, List.set_cons_succ]
    refine wpAnyH_ready (rs := [10]) (by kernel_rfl) (by simp) ?_
    refine AllReadyH.cons (by simp only [List.getElem?_toArray, List.getElem?_cons_succ, List.getElem?_cons_zero]; rfl) (fun K hK => ?_) AllReadyH.nil
    go_simp
    (go_at_call 147; refine (HC.out _ N1.out.drew).mono ?_; rintro e w2 ⟨rfl, rfl⟩)
    try dsimp only
    refine hK.out _ _ trivial (fun hHeld10 => ?_)
    clear hK K hHeld10
    try simp only [Act.put, List.setIfInBounds_toArray, List.set_cons_zero, List.set_cons_succ]
    refine tk (v := ?_) 11 ?_ ?_
    rotate_left
    · intro w hSw
      (try dsimp only at hSw)
      first | (go_simp; done) | (go_simp; with_reducible rfl) | with_reducible rfl
    simp only [Act.put, List.setIfInBounds_toArray, List.set_cons_zero, List.set_cons_succ]
    refine tk (v := ?_) 12 ?_ ?_
    rotate_left
    · intro w hSw
      (try dsimp only at hSw)
      first | (go_simp; done) | (go_simp; with_reducible rfl) | with_reducible rfl
    simp only [Act.put, List.setIfInBounds_toArray, List.set_cons_zero, List.set_cons_succ]
    refine tk (v := ?_) 13 ?_ ?_
    rotate_left
    · intro w hSw
      (try dsimp only at hSw)
      first | (go_simp; done) | (go_simp; with_reducible rfl) | with_reducible rfl
    simp only [Act.put, List.setIfInBounds_toArray, List.set_cons_zero, List.set_cons_succ]
    refine tk (v := ?_) 14 ?_ ?_
    rotate_left
    · intro w hSw
      (try dsimp only at hSw)
      first | (go_simp; done) | (go_simp; with_reducible rfl) | with_reducible rfl
    simp only [Act.put, List.setIfInBounds_toArray, List.set_cons_zero, List.set_cons_succ]
    refine tk (v := ?_) 15 ?_ ?_
    rotate_left
    · intro w hSw
      (try dsimp only at hSw)
      first | (go_simp; done) | (go_simp; with_reducible rfl) | with_reducible rfl
    simp only [Act.put, List.setIfInBounds_toArray, List.set_cons_zero, List.set_cons_succ]
    refine tk (v := ?_) 16 ?_ ?_
    rotate_left
    · intro w hSw
      (try dsimp only at hSw)
      first | (go_simp; done) | (go_simp; with_reducible rfl) | with_reducible rfl
    simp only [Act.put, List.setIfInBounds_toArray, List.set_cons_zero, List.set_cons_succ]
    refine tk (v := ?_) 17 ?_ ?_
    rotate_left
    · intro w hSw
      (try dsimp only at hSw)
      first | (go_simp; done) | (go_simp; with_reducible rfl) | with_reducible rfl
    simp only [Act.put, List.setIfInBounds_toArray, List.set_cons_zero, List.set_cons_succ]
    refine tk (v := ?_) 18 ?_ ?_
    rotate_left
    · intro w hSw
      (try dsimp only at hSw)
      first | (go_simp; done) | (go_simp; with_reducible rfl) | with_reducible rfl
    simp only [Act.put, List.setIfInBounds_toArray, List.set_cons_zero, List.set_cons_succ]
    refine wpAnyH_ready (rs := [19]) (by kernel_rfl) (by simp) ?_
    refine AllReadyH.cons (by simp only [List.getElem?_toArray, List.getElem?_cons_succ, List.getElem?_cons_zero]; rfl) (fun K hK => ?_) AllReadyH.nil
    go_simp
    (go_at_call 161; refine (HK0.out _ N1.out.drew HB1.out).mono ?_; rintro e w3 ⟨rfl, b3, m3⟩; have B3 := hid b3; have M3 : Hid (Mod (fun k => k = B) w w3) := hid ((New.mod (S := fun k => k = B) N1.out.drew).trans m3); have O3 := hid (OwnT.mod (HO.out.new N1.out.drew) m3 (fun k q1 q2 q3 => by omega)); clear b3 m3)
    try dsimp only
    refine hK.out _ _ trivial (fun hHeld19 => ?_)
    clear hK K hHeld19
    try simp only [Act.put, List.setIfInBounds_toArray, List.set_cons_zero, List.set_cons_succ]
    refine tk (v := ?_) 20 ?_ ?_
    rotate_left
    · intro w hSw
      (try dsimp only at hSw)
      first | (go_simp; done) | (go_simp; with_reducible rfl) | with_reducible rfl
    simp only [Act.put, List.setIfInBounds_toArray, List.set_cons_zero, List.set_cons_succ]
    refine tk (v := ?_) 21 ?_ ?_
    rotate_left
    · intro w hSw
      (try dsimp only at hSw)
      first | (go_simp; done) | (go_simp; with_reducible rfl) | with_reducible rfl
    simp only [Act.put, List.setIfInBounds_toArray, List.set_cons_zero, List.set_cons_succ]
    refine wpAnyH_done (by kernel_rfl) ?_ _
    have d3 := B3.out.cellv 3 rfl
    clear d4
    go_wp2
    go_end0
    exact ⟨⟨rfl, _, B3.out, O3.out⟩, (M3.out.mono (fun k _ q => by (show B ≤ k; omega)))⟩
set_option maxRecDepth 100000 in
set_option maxHeartbeats 4000000 in
theorem take_cookYes (B : Nat) (ln : Int) (s : RdS) (x : ByteArray) (w0 w : World) (h : TkIn w0 w B ln s x) (hk : x.extract 0 (keyLen x.data.toList) = kCook) (hph : s.ph = 2) (o : Option RdS)
    (ho : o = (if cookieOk ⟨(x.data.toList.drop (keyLen x.data.toList)).toArray⟩ = true then some { s with cookie := ⟨(x.data.toList.drop (keyLen x.data.toList)).toArray⟩, ph := 3 } else none)) :
    Calls Tryz.prog 116 #[.pointer (some ⟨B, 0, none⟩), .string x] w fun e w' => TkOut B ln o e w' ∧ Mod (fun k => B ≤ k) w w' := by
  have H0 := hid h
  obtain ⟨hv, hn0, hB0, hl, ⟨v, hB, hO⟩, hx⟩ := h
  have HVN := hid (fun W (n : New w W) => hv.new (hn0.trans n))
  have HB := hid hB; have HO := hid hO; have HN0 := hid hn0; have HV := hid hv; have HL := hid hl
  obtain ⟨kl, ki⟩ := key_le x.data.toList
  have hxl : x.data.toList.length = x.size := by rw [Array.length_toList]; rfl
  rw [hxl] at kl
  have HIB := hid (fun W => ib_any x W)
  have HLN := hid (fun W => lines_any W)
  have HRE := hid (rest_ext x)
  obtain ⟨I, hI⟩ : ∃ I, I = keyLen x.data.toList := ⟨_, rfl⟩
  obtain ⟨J, hJ⟩ : ∃ J, J = Lib.indexByte x.data.toList 32 := ⟨_, rfl⟩
  rw [← hI] at kl ki hk HRE
  rw [← hJ] at ki HIB
  have HMS := hid (fun W b (q : FunAt W b linesF) => linesF_hitkCook q)
  rw [← hk] at HMS
  have hnz : (nextB s.ph).size ≤ 4000000 := by
    match s.ph with
    | 0 => decide
    | 1 => decide
    | 2 => decide
    | n + 3 => exact Nat.zero_le _
  have HC := hid (fun W (n : New w W) => containsL_any (nextB s.ph) (x.extract 0 I) W (hv.new (hn0.trans n)) hnz)
  have HI := hid hI
  clear hv hB hO hI hJ hxl hn0 hnz hl hB0
  have hrs : (x.extract I x.size).size ≤ 65536 := by
    rw [ByteArray.size_extract]
    omega
  have hcf : Lib.contains (nextB s.ph).data.toList (x.extract 0 I).data.toList = true := by
    rw [hk]
    exact (has_next s.ph).2.2.trans (decide_eq_true hph)
  rw [hcf] at HC
  rw [← HI.out] at ho
  obtain ⟨r, hr⟩ : ∃ r, r = x.data.toList.drop I := ⟨_, rfl⟩
  rw [← hr] at ho HRE
  obtain ⟨R, hR⟩ : ∃ R, R = x.extract I x.size := ⟨_, rfl⟩
  rw [← hR] at HRE hrs
  have HRR := hid hR
  clear hcf hr hR
  have HK0 := hid (fun W hb => k3_any B s.port v s.cookie (nextB s.ph) R ln W hb hrs)
  rw [← ext_eq HRE.out] at ho
  rw [HRR.out] at HK0
  obtain ⟨nx, hnx⟩ : ∃ nx, nx = nextB s.ph := ⟨_, rfl⟩
  rw [← hnx] at HC HB HK0
  clear hk hnx hrs
  cases hp : cookieOk R with
  | false =>
    rw [hp, if_neg (by simp)] at ho
    rw [← HRR.out, hp, HRR.out] at HK0
    subst ho
    clear hp hph
    have dB := HB.out.lt
    go_enter Tryz.func116, Tryz.ntmps116
    go_wp2_with fail
    refine (HIB.out _).mono ?_
    rintro e w0' ⟨rfl, rfl⟩
    go_wp2_with fail
    go_region_held3 (fun w' => True) (trivial) ((go_at_call 146; refine (HLN.out _).mono ?_; rintro e w1 ⟨b, rfl, hf1, n1⟩; have lk := HMS.out w1 b hf1; have N1 : Hid (New w w1) := hid (((Mod.refl _ w).drew).trans n1); clear hf1 n1))
    go_wp2_with fail
    have HB1 := hid (N1.out.blk HB.out)
    have HO1 := hid (HO.out.new N1.out)
    have d3 := HB1.out.cellv 3 rfl; have d4 := HB1.out.cellv 4 rfl
    refine wp_region_held_drew (S := (fun _ => True)) (by kernel_rfl) trivial (fun hHeld => ?_)
    refine tk (v := ?_) 0 ?_ ?_
    rotate_left
    · intro w hSw
      (try dsimp only at hSw)
      first | (go_simp; done) | (go_simp; with_reducible rfl) | with_reducible rfl
    simp only [Act.put, List.setIfInBounds_toArray, List.set_cons_zero, List.set_cons_succ]
    refine tk (v := ?_) 1 ?_ ?_
    rotate_left
    · intro w hSw
      (try dsimp only at hSw)
      first | (go_simp; done) | (go_simp; with_reducible rfl) | with_reducible rfl
    simp only [Act.put, List.setIfInBounds_toArray, List.set_cons_zero, List.set_cons_succ]
    refine tk (v := ?_) 2 ?_ ?_
    rotate_left
    · intro w hSw
      (try dsimp only at hSw)
      first | (go_simp; done) | (go_simp; with_reducible rfl) | with_reducible rfl
    simp only [Act.put, List.setIfInBounds_toArray, List.set_cons_zero, List.set_cons_succ]
    refine tk (v := ?_) 3 ?_ ?_
    rotate_left
    · intro w hSw
      (try dsimp only at hSw)
      first | (go_simp; done) | (go_simp; with_reducible rfl) | with_reducible rfl
    simp only [Act.put, List.setIfInBounds_toArray, List.set_cons_zero, List.set_cons_succ]
    refine tk (v := ?_) 4 ?_ ?_
    rotate_left
    · intro w hSw
      (try dsimp only at hSw)
      first | (go_simp; done) | (go_simp; with_reducible rfl) | with_reducible rfl
    simp only [Act.put, List.setIfInBounds_toArray, List.set_cons_zero, List.set_cons_succ]
    refine tk (v := ?_) 5 ?_ ?_
    rotate_left
    · intro w hSw
      (try dsimp only at hSw)
      first | (go_simp; done) | (go_simp; with_reducible rfl) | with_reducible rfl
    simp only [Act.put, List.setIfInBounds_toArray, List.set_cons_zero, List.set_cons_succ]
    refine tk (v := ?_) 7 ?_ ?_
    rotate_left
    · intro w hSw
      (try dsimp only at hSw)
      first | (go_simp; done) | (go_simp; with_reducible rfl) | with_reducible rfl
    simp only [Act.put, List.setIfInBounds_toArray, List.set_cons_zero, List.set_cons_succ]
    refine tk (v := ?_) 8 ?_ ?_
    rotate_left
    · intro w hSw
      (try dsimp only at hSw)
      first | (go_simp; done) | (go_simp; with_reducible rfl) | with_reducible rfl
    simp only [Act.put, List.setIfInBounds_toArray, List.set_cons_zero, List.set_cons_succ]
    refine tk (v := ?_) 9 ?_ ?_
    rotate_left
    · intro w hSw
      (try dsimp only at hSw)
      first | (go_simp; done) | (go_simp; with_reducible rfl) | with_reducible rfl
    simp only [Act.put, List.setIfInBounds_toArray, List.set_cons_zero, List.set_cons_succ]
    refine wpAnyH_ready (rs := [6]) (by kernel_rfl) (by simp) ?_
    refine AllReadyH.cons (by simp only [List.getElem?_toArray, List.getElem?_cons_succ, List.getElem?_cons_zero]; rfl) (fun K hK => ?_) AllReadyH.nil
    go_simp
    refine hK.out _ _ trivial (fun hHeld6 => ?_)
    clear hK K hHeld6
    try simp only [Act.put, List.setIfInBounds_toArray, List.set_cons_zero, List.set_cons_succ]
    refine wpAnyH_ready (rs := [10]) (by kernel_rfl) (by simp) ?_
    refine AllReadyH.cons (by simp only [List.getElem?_toArray, List.getElem?_cons_succ, List.getElem?_cons_zero]; rfl) (fun K hK => ?_) AllReadyH.nil
    go_simp
    (go_at_call 147; refine (HC.out _ N1.out.drew).mono ?_; rintro e w2 ⟨rfl, rfl⟩)
    try dsimp only
    refine hK.out _ _ trivial (fun hHeld10 => ?_)
    clear hK K hHeld10
    try simp only [Act.put, List.setIfInBounds_toArray, List.set_cons_zero, List.set_cons_succ]
    refine tk (v := ?_) 11 ?_ ?_
    rotate_left
    · intro w hSw
      (try dsimp only at hSw)
      first | (go_simp; done) | (go_simp; with_reducible rfl) | with_reducible rfl
    simp only [Act.put, List.setIfInBounds_toArray, List.set_cons_zero, List.set_cons_succ]
    refine tk (v := ?_) 12 ?_ ?_
    rotate_left
    · intro w hSw
      (try dsimp only at hSw)
      first | (go_simp; done) | (go_simp; with_reducible rfl) | with_reducible rfl
    simp only [Act.put, List.setIfInBounds_toArray, List.set_cons_zero, List.set_cons_succ]
    refine tk (v := ?_) 13 ?_ ?_
    rotate_left
    · intro w hSw
      (try dsimp only at hSw)
      first | (go_simp; done) | (go_simp; with_reducible rfl) | with_reducible rfl
    simp only [Act.put, List.setIfInBounds_toArray, List.set_cons_zero, List.set_cons_succ]
    refine tk (v := ?_) 14 ?_ ?_
    rotate_left
    · intro w hSw
      (try dsimp only at hSw)
      first | (go_simp; done) | (go_simp; with_reducible rfl) | with_reducible rfl
    simp only [Act.put, List.setIfInBounds_toArray, List.set_cons_zero, List.set_cons_succ]
    refine tk (v := ?_) 15 ?_ ?_
    rotate_left
    · intro w hSw
      (try dsimp only at hSw)
      first | (go_simp; done) | (go_simp; with_reducible rfl) | with_reducible rfl
    simp only [Act.put, List.setIfInBounds_toArray, List.set_cons_zero, List.set_cons_succ]
    refine tk (v := ?_) 16 ?_ ?_
    rotate_left
    · intro w hSw
      (try dsimp only at hSw)
      first | (go_simp; done) | (go_simp; with_reducible rfl) | with_reducible rfl
    simp only [Act.put, List.setIfInBounds_toArray, List.set_cons_zero, List.set_cons_succ]
    refine tk (v := ?_) 17 ?_ ?_
    rotate_left
    · intro w hSw
      (try dsimp only at hSw)
      first | (go_simp; done) | (go_simp; with_reducible rfl) | with_reducible rfl
    simp only [Act.put, List.setIfInBounds_toArray, List.set_cons_zero, List.set_cons_succ]
    refine tk (v := ?_) 18 ?_ ?_
    rotate_left
    · intro w hSw
      (try dsimp only at hSw)
      first | (go_simp; done) | (go_simp; with_reducible rfl) | with_reducible rfl
    simp only [Act.put, List.setIfInBounds_toArray, List.set_cons_zero, List.set_cons_succ]
    refine wpAnyH_ready (rs := [19]) (by kernel_rfl) (by simp) ?_
    refine AllReadyH.cons (by simp only [List.getElem?_toArray, List.getElem?_cons_succ, List.getElem?_cons_zero]; rfl) (fun K hK => ?_) AllReadyH.nil
    go_simp
    (go_at_call 164; refine (HK0.out _ HB1.out.drew).mono ?_; rintro e w3 ⟨rfl, b3, m3⟩; have B3 := hid b3; have M3 : Hid (Mod (fun k => k = B) w w3) := hid ((New.mod (S := fun k => k = B) N1.out.drew).trans m3); have O3 := hid (OwnT.mod (HO.out.new N1.out.drew) m3 (fun k q1 q2 q3 => by omega)); clear b3 m3)
    try dsimp only
    refine hK.out _ _ trivial (fun hHeld19 => ?_)
    clear hK K hHeld19
    try simp only [Act.put, List.setIfInBounds_toArray, List.set_cons_zero, List.set_cons_succ]
    refine tk (v := ?_) 20 ?_ ?_
    rotate_left
    · intro w hSw
      (try dsimp only at hSw)
      first | (go_simp; done) | (go_simp; with_reducible rfl) | with_reducible rfl
    simp only [Act.put, List.setIfInBounds_toArray, List.set_cons_zero, List.set_cons_succ]
    refine tk (v := ?_) 21 ?_ ?_
    rotate_left
    · intro w hSw
      (try dsimp only at hSw)
      first | (go_simp; done) | (go_simp; with_reducible rfl) | with_reducible rfl
    simp only [Act.put, List.setIfInBounds_toArray, List.set_cons_zero, List.set_cons_succ]
    refine wpAnyH_done (by kernel_rfl) ?_ _
    have d3 := B3.out.cellv 3 rfl
    clear d4
    go_wp2
    exact ⟨rfl, rfl, (M3.out.mono (fun k _ q => by (show B ≤ k; omega)))⟩
  | true =>
    rw [hp, if_pos rfl] at ho
    rw [← HRR.out, hp, HRR.out] at HK0
    subst ho
    rw [HRR.out]
    clear hp hph
    have dB := HB.out.lt
    go_enter Tryz.func116, Tryz.ntmps116
    go_wp2_with fail
    refine (HIB.out _).mono ?_
    rintro e w0' ⟨rfl, rfl⟩
    go_wp2_with fail
    go_region_held3 (fun w' => True) (trivial) ((go_at_call 146; refine (HLN.out _).mono ?_; rintro e w1 ⟨b, rfl, hf1, n1⟩; have lk := HMS.out w1 b hf1; have N1 : Hid (New w w1) := hid (((Mod.refl _ w).drew).trans n1); clear hf1 n1))
    go_wp2_with fail
    have HB1 := hid (N1.out.blk HB.out)
    have HO1 := hid (HO.out.new N1.out)
    have d3 := HB1.out.cellv 3 rfl; have d4 := HB1.out.cellv 4 rfl
    refine wp_region_held_drew (S := (fun _ => True)) (by kernel_rfl) trivial (fun hHeld => ?_)
    refine tk (v := ?_) 0 ?_ ?_
    rotate_left
    · intro w hSw
      (try dsimp only at hSw)
      first | (go_simp; done) | (go_simp; with_reducible rfl) | with_reducible rfl
    simp only [Act.put, List.setIfInBounds_toArray, List.set_cons_zero, List.set_cons_succ]
    refine tk (v := ?_) 1 ?_ ?_
    rotate_left
    · intro w hSw
      (try dsimp only at hSw)
      first | (go_simp; done) | (go_simp; with_reducible rfl) | with_reducible rfl
    simp only [Act.put, List.setIfInBounds_toArray, List.set_cons_zero, List.set_cons_succ]
    refine tk (v := ?_) 2 ?_ ?_
    rotate_left
    · intro w hSw
      (try dsimp only at hSw)
      first | (go_simp; done) | (go_simp; with_reducible rfl) | with_reducible rfl
    simp only [Act.put, List.setIfInBounds_toArray, List.set_cons_zero, List.set_cons_succ]
    refine tk (v := ?_) 3 ?_ ?_
    rotate_left
    · intro w hSw
      (try dsimp only at hSw)
      first | (go_simp; done) | (go_simp; with_reducible rfl) | with_reducible rfl
    simp only [Act.put, List.setIfInBounds_toArray, List.set_cons_zero, List.set_cons_succ]
    refine tk (v := ?_) 4 ?_ ?_
    rotate_left
    · intro w hSw
      (try dsimp only at hSw)
      first | (go_simp; done) | (go_simp; with_reducible rfl) | with_reducible rfl
    simp only [Act.put, List.setIfInBounds_toArray, List.set_cons_zero, List.set_cons_succ]
    refine tk (v := ?_) 5 ?_ ?_
    rotate_left
    · intro w hSw
      (try dsimp only at hSw)
      first | (go_simp; done) | (go_simp; with_reducible rfl) | with_reducible rfl
    simp only [Act.put, List.setIfInBounds_toArray, List.set_cons_zero, List.set_cons_succ]
    refine tk (v := ?_) 7 ?_ ?_
    rotate_left
    · intro w hSw
      (try dsimp only at hSw)
      first | (go_simp; done) | (go_simp; with_reducible rfl) | with_reducible rfl
    simp only [Act.put, List.setIfInBounds_toArray, List.set_cons_zero, List.set_cons_succ]
    refine tk (v := ?_) 8 ?_ ?_
    rotate_left
    · intro w hSw
      (try dsimp only at hSw)
      first | (go_simp; done) | (go_simp; with_reducible rfl) | with_reducible rfl
    simp only [Act.put, List.setIfInBounds_toArray, List.set_cons_zero, List.set_cons_succ]
    refine tk (v := ?_) 9 ?_ ?_
    rotate_left
    · intro w hSw
      (try dsimp only at hSw)
      first | (go_simp; done) | (go_simp; with_reducible rfl) | with_reducible rfl
    simp only [Act.put, List.setIfInBounds_toArray, List.set_cons_zero, List.set_cons_succ]
    refine wpAnyH_ready (rs := [6]) (by kernel_rfl) (by simp) ?_
    refine AllReadyH.cons (by simp only [List.getElem?_toArray, List.getElem?_cons_succ, List.getElem?_cons_zero]; rfl) (fun K hK => ?_) AllReadyH.nil
    go_simp
    refine hK.out _ _ trivial (fun hHeld6 => ?_)
    clear hK K hHeld6
    try simp only [Act.put, List.setIfInBounds_toArray, List.set_cons_zero, List.set_cons_succ]
    refine wpAnyH_ready (rs := [10]) (by kernel_rfl) (by simp) ?_
    refine AllReadyH.cons (by simp only [List.getElem?_toArray, List.getElem?_cons_succ, List.getElem?_cons_zero]; rfl) (fun K hK => ?_) AllReadyH.nil
    go_simp
    (go_at_call 147; refine (HC.out _ N1.out.drew).mono ?_; rintro e w2 ⟨rfl, rfl⟩)
    try dsimp only
    refine hK.out _ _ trivial (fun hHeld10 => ?_)
    clear hK K hHeld10
    try simp only [Act.put, List.setIfInBounds_toArray, List.set_cons_zero, List.set_cons_succ]
    refine tk (v := ?_) 11 ?_ ?_
    rotate_left
    · intro w hSw
      (try dsimp only at hSw)
      first | (go_simp; done) | (go_simp; with_reducible rfl) | with_reducible rfl
    simp only [Act.put, List.setIfInBounds_toArray, List.set_cons_zero, List.set_cons_succ]
    refine tk (v := ?_) 12 ?_ ?_
    rotate_left
    · intro w hSw
      (try dsimp only at hSw)
      first | (go_simp; done) | (go_simp; with_reducible rfl) | with_reducible rfl
    simp only [Act.put, List.setIfInBounds_toArray, List.set_cons_zero, List.set_cons_succ]
    refine tk (v := ?_) 13 ?_ ?_
    rotate_left
    · intro w hSw
      (try dsimp only at hSw)
      first | (go_simp; done) | (go_simp; with_reducible rfl) | with_reducible rfl
    simp only [Act.put, List.setIfInBounds_toArray, List.set_cons_zero, List.set_cons_succ]
    refine tk (v := ?_) 14 ?_ ?_
    rotate_left
    · intro w hSw
      (try dsimp only at hSw)
      first | (go_simp; done) | (go_simp; with_reducible rfl) | with_reducible rfl
    simp only [Act.put, List.setIfInBounds_toArray, List.set_cons_zero, List.set_cons_succ]
    refine tk (v := ?_) 15 ?_ ?_
    rotate_left
    · intro w hSw
      (try dsimp only at hSw)
      first | (go_simp; done) | (go_simp; with_reducible rfl) | with_reducible rfl
    simp only [Act.put, List.setIfInBounds_toArray, List.set_cons_zero, List.set_cons_succ]
    refine tk (v := ?_) 16 ?_ ?_
    rotate_left
    · intro w hSw
      (try dsimp only at hSw)
      first | (go_simp; done) | (go_simp; with_reducible rfl) | with_reducible rfl
    simp only [Act.put, List.setIfInBounds_toArray, List.set_cons_zero, List.set_cons_succ]
    refine tk (v := ?_) 17 ?_ ?_
    rotate_left
    · intro w hSw
      (try dsimp only at hSw)
      first | (go_simp; done) | (go_simp; with_reducible rfl) | with_reducible rfl
    simp only [Act.put, List.setIfInBounds_toArray, List.set_cons_zero, List.set_cons_succ]
    refine tk (v := ?_) 18 ?_ ?_
    rotate_left
    · intro w hSw
      (try dsimp only at hSw)
      first | (go_simp; done) | (go_simp; with_reducible rfl) | with_reducible rfl
    simp only [Act.put, List.setIfInBounds_toArray, List.set_cons_zero, List.set_cons_succ]
    refine wpAnyH_ready (rs := [19]) (by kernel_rfl) (by simp) ?_
    refine AllReadyH.cons (by simp only [List.getElem?_toArray, List.getElem?_cons_succ, List.getElem?_cons_zero]; rfl) (fun K hK => ?_) AllReadyH.nil
    go_simp
    (go_at_call 164; refine (HK0.out _ HB1.out.drew).mono ?_; rintro e w3 ⟨rfl, b3, m3⟩; have B3 := hid b3; have M3 : Hid (Mod (fun k => k = B) w w3) := hid ((New.mod (S := fun k => k = B) N1.out.drew).trans m3); have O3 := hid (OwnT.mod (HO.out.new N1.out.drew) m3 (fun k q1 q2 q3 => by omega)); clear b3 m3)
    try dsimp only
    refine hK.out _ _ trivial (fun hHeld19 => ?_)
    clear hK K hHeld19
    try simp only [Act.put, List.setIfInBounds_toArray, List.set_cons_zero, List.set_cons_succ]
    refine tk (v := ?_) 20 ?_ ?_
    rotate_left
    · intro w hSw
      (try dsimp only at hSw)
      first | (go_simp; done) | (go_simp; with_reducible rfl) | with_reducible rfl
    simp only [Act.put, List.setIfInBounds_toArray, List.set_cons_zero, List.set_cons_succ]
    refine tk (v := ?_) 21 ?_ ?_
    rotate_left
    · intro w hSw
      (try dsimp only at hSw)
      first | (go_simp; done) | (go_simp; with_reducible rfl) | with_reducible rfl
    simp only [Act.put, List.setIfInBounds_toArray, List.set_cons_zero, List.set_cons_succ]
    refine wpAnyH_done (by kernel_rfl) ?_ _
    have d3 := B3.out.cellv 3 rfl
    clear d4
    go_wp2
    go_end0
    exact ⟨⟨rfl, _, B3.out, O3.out⟩, (M3.out.mono (fun k _ q => by (show B ≤ k; omega)))⟩
set_option maxRecDepth 100000 in
set_option maxHeartbeats 4000000 in
theorem take_nameYes (B : Nat) (ln : Int) (s : RdS) (x : ByteArray) (w0 w : World) (h : TkIn w0 w B ln s x) (hk : x.extract 0 (keyLen x.data.toList) = kName) (hph : s.ph = 1 ∨ s.ph = 2) (o : Option RdS)
    (ho : o = (match unhex (x.data.toList.drop (keyLen x.data.toList)) with
      | some t => if namesB (addN s.names t) = true then some { s with names := addN s.names t, ph := 2 } else none
      | none => none)) :
    Calls Tryz.prog 116 #[.pointer (some ⟨B, 0, none⟩), .string x] w fun e w' => TkOut B ln o e w' ∧ Mod (fun k => B ≤ k) w w' := by
  have H0 := hid h
  obtain ⟨hv, hn0, hB0, hl, ⟨v, hB, hO⟩, hx⟩ := h
  have HVN := hid (fun W (n : New w W) => hv.new (hn0.trans n))
  have HB := hid hB; have HO := hid hO; have HN0 := hid hn0; have HV := hid hv; have HL := hid hl
  obtain ⟨kl, ki⟩ := key_le x.data.toList
  have hxl : x.data.toList.length = x.size := by rw [Array.length_toList]; rfl
  rw [hxl] at kl
  have HIB := hid (fun W => ib_any x W)
  have HLN := hid (fun W => lines_any W)
  have HRE := hid (rest_ext x)
  obtain ⟨I, hI⟩ : ∃ I, I = keyLen x.data.toList := ⟨_, rfl⟩
  obtain ⟨J, hJ⟩ : ∃ J, J = Lib.indexByte x.data.toList 32 := ⟨_, rfl⟩
  rw [← hI] at kl ki hk HRE
  rw [← hJ] at ki HIB
  have HMS := hid (fun W b (q : FunAt W b linesF) => linesF_hitkName q)
  rw [← hk] at HMS
  have hnz : (nextB s.ph).size ≤ 4000000 := by
    match s.ph with
    | 0 => decide
    | 1 => decide
    | 2 => decide
    | n + 3 => exact Nat.zero_le _
  have HC := hid (fun W (n : New w W) => containsL_any (nextB s.ph) (x.extract 0 I) W (hv.new (hn0.trans n)) hnz)
  have HI := hid hI
  clear hv hB hO hI hJ hxl hn0 hnz hl hB0
  have hrs : (x.extract I x.size).size ≤ 65536 := by
    rw [ByteArray.size_extract]
    omega
  have hcf : Lib.contains (nextB s.ph).data.toList (x.extract 0 I).data.toList = true := by
    rw [hk]
    exact (has_next s.ph).2.1.trans (decide_eq_true hph)
  rw [hcf] at HC
  rw [← HI.out] at ho
  obtain ⟨r, hr⟩ : ∃ r, r = x.data.toList.drop I := ⟨_, rfl⟩
  rw [← hr] at ho HRE
  obtain ⟨R, hR⟩ : ∃ R, R = x.extract I x.size := ⟨_, rfl⟩
  rw [← hR] at HRE hrs
  have HRR := hid hR
  clear hcf hr hR
  have HK0 := hid (fun W (ho : OwnT W (B + 1) v s.names) hb => k2_any B s.port v s.names s.cookie (nextB s.ph) R ln W ho H0.out.few hb hrs)
  rw [HRE.out] at HK0
  rw [HRR.out] at HK0
  obtain ⟨nx, hnx⟩ : ∃ nx, nx = nextB s.ph := ⟨_, rfl⟩
  rw [← hnx] at HC HB HK0
  clear hk hnx hrs
  have hval := kname_val s.names r
  cases hp : unhex r with
  | none =>
    rw [hp] at ho hval
    rw [hval] at HK0
    subst ho
    clear hp hph hval
    have dB := HB.out.lt
    go_enter Tryz.func116, Tryz.ntmps116
    go_wp2_with fail
    refine (HIB.out _).mono ?_
    rintro e w0' ⟨rfl, rfl⟩
    go_wp2_with fail
    go_region_held3 (fun w' => True) (trivial) ((go_at_call 146; refine (HLN.out _).mono ?_; rintro e w1 ⟨b, rfl, hf1, n1⟩; have lk := HMS.out w1 b hf1; have N1 : Hid (New w w1) := hid (((Mod.refl _ w).drew).trans n1); clear hf1 n1))
    go_wp2_with fail
    have HB1 := hid (N1.out.blk HB.out)
    have HO1 := hid (HO.out.new N1.out)
    have d3 := HB1.out.cellv 3 rfl; have d4 := HB1.out.cellv 4 rfl
    refine wp_region_held_drew (S := (fun _ => True)) (by kernel_rfl) trivial (fun hHeld => ?_)
    refine tk (v := ?_) 0 ?_ ?_
    rotate_left
    · intro w hSw
      (try dsimp only at hSw)
      first | (go_simp; done) | (go_simp; with_reducible rfl) | with_reducible rfl
    simp only [Act.put, List.setIfInBounds_toArray, List.set_cons_zero, List.set_cons_succ]
    refine tk (v := ?_) 1 ?_ ?_
    rotate_left
    · intro w hSw
      (try dsimp only at hSw)
      first | (go_simp; done) | (go_simp; with_reducible rfl) | with_reducible rfl
    simp only [Act.put, List.setIfInBounds_toArray, List.set_cons_zero, List.set_cons_succ]
    refine tk (v := ?_) 2 ?_ ?_
    rotate_left
    · intro w hSw
      (try dsimp only at hSw)
      first | (go_simp; done) | (go_simp; with_reducible rfl) | with_reducible rfl
    simp only [Act.put, List.setIfInBounds_toArray, List.set_cons_zero, List.set_cons_succ]
    refine tk (v := ?_) 3 ?_ ?_
    rotate_left
    · intro w hSw
      (try dsimp only at hSw)
      first | (go_simp; done) | (go_simp; with_reducible rfl) | with_reducible rfl
    simp only [Act.put, List.setIfInBounds_toArray, List.set_cons_zero, List.set_cons_succ]
    refine tk (v := ?_) 4 ?_ ?_
    rotate_left
    · intro w hSw
      (try dsimp only at hSw)
      first | (go_simp; done) | (go_simp; with_reducible rfl) | with_reducible rfl
    simp only [Act.put, List.setIfInBounds_toArray, List.set_cons_zero, List.set_cons_succ]
    refine tk (v := ?_) 5 ?_ ?_
    rotate_left
    · intro w hSw
      (try dsimp only at hSw)
      first | (go_simp; done) | (go_simp; with_reducible rfl) | with_reducible rfl
    simp only [Act.put, List.setIfInBounds_toArray, List.set_cons_zero, List.set_cons_succ]
    refine tk (v := ?_) 7 ?_ ?_
    rotate_left
    · intro w hSw
      (try dsimp only at hSw)
      first | (go_simp; done) | (go_simp; with_reducible rfl) | with_reducible rfl
    simp only [Act.put, List.setIfInBounds_toArray, List.set_cons_zero, List.set_cons_succ]
    refine tk (v := ?_) 8 ?_ ?_
    rotate_left
    · intro w hSw
      (try dsimp only at hSw)
      first | (go_simp; done) | (go_simp; with_reducible rfl) | with_reducible rfl
    simp only [Act.put, List.setIfInBounds_toArray, List.set_cons_zero, List.set_cons_succ]
    refine tk (v := ?_) 9 ?_ ?_
    rotate_left
    · intro w hSw
      (try dsimp only at hSw)
      first | (go_simp; done) | (go_simp; with_reducible rfl) | with_reducible rfl
    simp only [Act.put, List.setIfInBounds_toArray, List.set_cons_zero, List.set_cons_succ]
    refine wpAnyH_ready (rs := [6]) (by kernel_rfl) (by simp) ?_
    refine AllReadyH.cons (by simp only [List.getElem?_toArray, List.getElem?_cons_succ, List.getElem?_cons_zero]; rfl) (fun K hK => ?_) AllReadyH.nil
    go_simp
    refine hK.out _ _ trivial (fun hHeld6 => ?_)
    clear hK K hHeld6
    try simp only [Act.put, List.setIfInBounds_toArray, List.set_cons_zero, List.set_cons_succ]
    refine wpAnyH_ready (rs := [10]) (by kernel_rfl) (by simp) ?_
    refine AllReadyH.cons (by simp only [List.getElem?_toArray, List.getElem?_cons_succ, List.getElem?_cons_zero]; rfl) (fun K hK => ?_) AllReadyH.nil
    go_simp
    (go_at_call 147; refine (HC.out _ N1.out.drew).mono ?_; rintro e w2 ⟨rfl, rfl⟩)
    try dsimp only
    refine hK.out _ _ trivial (fun hHeld10 => ?_)
    clear hK K hHeld10
    try simp only [Act.put, List.setIfInBounds_toArray, List.set_cons_zero, List.set_cons_succ]
    refine tk (v := ?_) 11 ?_ ?_
    rotate_left
    · intro w hSw
      (try dsimp only at hSw)
      first | (go_simp; done) | (go_simp; with_reducible rfl) | with_reducible rfl
    simp only [Act.put, List.setIfInBounds_toArray, List.set_cons_zero, List.set_cons_succ]
    refine tk (v := ?_) 12 ?_ ?_
    rotate_left
    · intro w hSw
      (try dsimp only at hSw)
      first | (go_simp; done) | (go_simp; with_reducible rfl) | with_reducible rfl
    simp only [Act.put, List.setIfInBounds_toArray, List.set_cons_zero, List.set_cons_succ]
    refine tk (v := ?_) 13 ?_ ?_
    rotate_left
    · intro w hSw
      (try dsimp only at hSw)
      first | (go_simp; done) | (go_simp; with_reducible rfl) | with_reducible rfl
    simp only [Act.put, List.setIfInBounds_toArray, List.set_cons_zero, List.set_cons_succ]
    refine tk (v := ?_) 14 ?_ ?_
    rotate_left
    · intro w hSw
      (try dsimp only at hSw)
      first | (go_simp; done) | (go_simp; with_reducible rfl) | with_reducible rfl
    simp only [Act.put, List.setIfInBounds_toArray, List.set_cons_zero, List.set_cons_succ]
    refine tk (v := ?_) 15 ?_ ?_
    rotate_left
    · intro w hSw
      (try dsimp only at hSw)
      first | (go_simp; done) | (go_simp; with_reducible rfl) | with_reducible rfl
    simp only [Act.put, List.setIfInBounds_toArray, List.set_cons_zero, List.set_cons_succ]
    refine tk (v := ?_) 16 ?_ ?_
    rotate_left
    · intro w hSw
      (try dsimp only at hSw)
      first | (go_simp; done) | (go_simp; with_reducible rfl) | with_reducible rfl
    simp only [Act.put, List.setIfInBounds_toArray, List.set_cons_zero, List.set_cons_succ]
    refine tk (v := ?_) 17 ?_ ?_
    rotate_left
    · intro w hSw
      (try dsimp only at hSw)
      first | (go_simp; done) | (go_simp; with_reducible rfl) | with_reducible rfl
    simp only [Act.put, List.setIfInBounds_toArray, List.set_cons_zero, List.set_cons_succ]
    refine tk (v := ?_) 18 ?_ ?_
    rotate_left
    · intro w hSw
      (try dsimp only at hSw)
      first | (go_simp; done) | (go_simp; with_reducible rfl) | with_reducible rfl
    simp only [Act.put, List.setIfInBounds_toArray, List.set_cons_zero, List.set_cons_succ]
    refine wpAnyH_ready (rs := [19]) (by kernel_rfl) (by simp) ?_
    refine AllReadyH.cons (by simp only [List.getElem?_toArray, List.getElem?_cons_succ, List.getElem?_cons_zero]; rfl) (fun K hK => ?_) AllReadyH.nil
    go_simp
    (go_at_call 162; refine (HK0.out _ (HO.out.new N1.out.drew) HB1.out).mono ?_; rintro e w3 ⟨v3, rfl, b3, O3', m3⟩; have B3 := hid b3; have M3 : Hid (Mod (fun k => B ≤ k) w w3) := hid ((New.mod (S := fun k => B ≤ k) N1.out.drew).trans m3); have O3 := hid O3'; clear b3 m3 O3')
    try dsimp only
    refine hK.out _ _ trivial (fun hHeld19 => ?_)
    clear hK K hHeld19
    try simp only [Act.put, List.setIfInBounds_toArray, List.set_cons_zero, List.set_cons_succ]
    refine tk (v := ?_) 20 ?_ ?_
    rotate_left
    · intro w hSw
      (try dsimp only at hSw)
      first | (go_simp; done) | (go_simp; with_reducible rfl) | with_reducible rfl
    simp only [Act.put, List.setIfInBounds_toArray, List.set_cons_zero, List.set_cons_succ]
    refine tk (v := ?_) 21 ?_ ?_
    rotate_left
    · intro w hSw
      (try dsimp only at hSw)
      first | (go_simp; done) | (go_simp; with_reducible rfl) | with_reducible rfl
    simp only [Act.put, List.setIfInBounds_toArray, List.set_cons_zero, List.set_cons_succ]
    refine wpAnyH_done (by kernel_rfl) ?_ _
    have d3 := B3.out.cellv 3 rfl
    clear d4
    go_wp2
    exact ⟨rfl, rfl, M3.out⟩
  | some t =>
    rw [hp] at ho hval
    simp only at ho hval
    rw [hval, (unhex_yes hp).1] at HK0
    cases hn : namesB (addN s.names t) with
    | false =>
      rw [hn, if_neg (by simp)] at ho
      rw [hn] at HK0
      subst ho
      clear hp hph hval hn
      have dB := HB.out.lt
      go_enter Tryz.func116, Tryz.ntmps116
      go_wp2_with fail
      refine (HIB.out _).mono ?_
      rintro e w0' ⟨rfl, rfl⟩
      go_wp2_with fail
      go_region_held3 (fun w' => True) (trivial) ((go_at_call 146; refine (HLN.out _).mono ?_; rintro e w1 ⟨b, rfl, hf1, n1⟩; have lk := HMS.out w1 b hf1; have N1 : Hid (New w w1) := hid (((Mod.refl _ w).drew).trans n1); clear hf1 n1))
      go_wp2_with fail
      have HB1 := hid (N1.out.blk HB.out)
      have HO1 := hid (HO.out.new N1.out)
      have d3 := HB1.out.cellv 3 rfl; have d4 := HB1.out.cellv 4 rfl
      refine wp_region_held_drew (S := (fun _ => True)) (by kernel_rfl) trivial (fun hHeld => ?_)
      refine tk (v := ?_) 0 ?_ ?_
      rotate_left
      · intro w hSw
        (try dsimp only at hSw)
        first | (go_simp; done) | (go_simp; with_reducible rfl) | with_reducible rfl
      simp only [Act.put, List.setIfInBounds_toArray, List.set_cons_zero, List.set_cons_succ]
      refine tk (v := ?_) 1 ?_ ?_
      rotate_left
      · intro w hSw
        (try dsimp only at hSw)
        first | (go_simp; done) | (go_simp; with_reducible rfl) | with_reducible rfl
      simp only [Act.put, List.setIfInBounds_toArray, List.set_cons_zero, List.set_cons_succ]
      refine tk (v := ?_) 2 ?_ ?_
      rotate_left
      · intro w hSw
        (try dsimp only at hSw)
        first | (go_simp; done) | (go_simp; with_reducible rfl) | with_reducible rfl
      simp only [Act.put, List.setIfInBounds_toArray, List.set_cons_zero, List.set_cons_succ]
      refine tk (v := ?_) 3 ?_ ?_
      rotate_left
      · intro w hSw
        (try dsimp only at hSw)
        first | (go_simp; done) | (go_simp; with_reducible rfl) | with_reducible rfl
      simp only [Act.put, List.setIfInBounds_toArray, List.set_cons_zero, List.set_cons_succ]
      refine tk (v := ?_) 4 ?_ ?_
      rotate_left
      · intro w hSw
        (try dsimp only at hSw)
        first | (go_simp; done) | (go_simp; with_reducible rfl) | with_reducible rfl
      simp only [Act.put, List.setIfInBounds_toArray, List.set_cons_zero, List.set_cons_succ]
      refine tk (v := ?_) 5 ?_ ?_
      rotate_left
      · intro w hSw
        (try dsimp only at hSw)
        first | (go_simp; done) | (go_simp; with_reducible rfl) | with_reducible rfl
      simp only [Act.put, List.setIfInBounds_toArray, List.set_cons_zero, List.set_cons_succ]
      refine tk (v := ?_) 7 ?_ ?_
      rotate_left
      · intro w hSw
        (try dsimp only at hSw)
        first | (go_simp; done) | (go_simp; with_reducible rfl) | with_reducible rfl
      simp only [Act.put, List.setIfInBounds_toArray, List.set_cons_zero, List.set_cons_succ]
      refine tk (v := ?_) 8 ?_ ?_
      rotate_left
      · intro w hSw
        (try dsimp only at hSw)
        first | (go_simp; done) | (go_simp; with_reducible rfl) | with_reducible rfl
      simp only [Act.put, List.setIfInBounds_toArray, List.set_cons_zero, List.set_cons_succ]
      refine tk (v := ?_) 9 ?_ ?_
      rotate_left
      · intro w hSw
        (try dsimp only at hSw)
        first | (go_simp; done) | (go_simp; with_reducible rfl) | with_reducible rfl
      simp only [Act.put, List.setIfInBounds_toArray, List.set_cons_zero, List.set_cons_succ]
      refine wpAnyH_ready (rs := [6]) (by kernel_rfl) (by simp) ?_
      refine AllReadyH.cons (by simp only [List.getElem?_toArray, List.getElem?_cons_succ, List.getElem?_cons_zero]; rfl) (fun K hK => ?_) AllReadyH.nil
      go_simp
      refine hK.out _ _ trivial (fun hHeld6 => ?_)
      clear hK K hHeld6
      try simp only [Act.put, List.setIfInBounds_toArray, List.set_cons_zero, List.set_cons_succ]
      refine wpAnyH_ready (rs := [10]) (by kernel_rfl) (by simp) ?_
      refine AllReadyH.cons (by simp only [List.getElem?_toArray, List.getElem?_cons_succ, List.getElem?_cons_zero]; rfl) (fun K hK => ?_) AllReadyH.nil
      go_simp
      (go_at_call 147; refine (HC.out _ N1.out.drew).mono ?_; rintro e w2 ⟨rfl, rfl⟩)
      try dsimp only
      refine hK.out _ _ trivial (fun hHeld10 => ?_)
      clear hK K hHeld10
      try simp only [Act.put, List.setIfInBounds_toArray, List.set_cons_zero, List.set_cons_succ]
      refine tk (v := ?_) 11 ?_ ?_
      rotate_left
      · intro w hSw
        (try dsimp only at hSw)
        first | (go_simp; done) | (go_simp; with_reducible rfl) | with_reducible rfl
      simp only [Act.put, List.setIfInBounds_toArray, List.set_cons_zero, List.set_cons_succ]
      refine tk (v := ?_) 12 ?_ ?_
      rotate_left
      · intro w hSw
        (try dsimp only at hSw)
        first | (go_simp; done) | (go_simp; with_reducible rfl) | with_reducible rfl
      simp only [Act.put, List.setIfInBounds_toArray, List.set_cons_zero, List.set_cons_succ]
      refine tk (v := ?_) 13 ?_ ?_
      rotate_left
      · intro w hSw
        (try dsimp only at hSw)
        first | (go_simp; done) | (go_simp; with_reducible rfl) | with_reducible rfl
      simp only [Act.put, List.setIfInBounds_toArray, List.set_cons_zero, List.set_cons_succ]
      refine tk (v := ?_) 14 ?_ ?_
      rotate_left
      · intro w hSw
        (try dsimp only at hSw)
        first | (go_simp; done) | (go_simp; with_reducible rfl) | with_reducible rfl
      simp only [Act.put, List.setIfInBounds_toArray, List.set_cons_zero, List.set_cons_succ]
      refine tk (v := ?_) 15 ?_ ?_
      rotate_left
      · intro w hSw
        (try dsimp only at hSw)
        first | (go_simp; done) | (go_simp; with_reducible rfl) | with_reducible rfl
      simp only [Act.put, List.setIfInBounds_toArray, List.set_cons_zero, List.set_cons_succ]
      refine tk (v := ?_) 16 ?_ ?_
      rotate_left
      · intro w hSw
        (try dsimp only at hSw)
        first | (go_simp; done) | (go_simp; with_reducible rfl) | with_reducible rfl
      simp only [Act.put, List.setIfInBounds_toArray, List.set_cons_zero, List.set_cons_succ]
      refine tk (v := ?_) 17 ?_ ?_
      rotate_left
      · intro w hSw
        (try dsimp only at hSw)
        first | (go_simp; done) | (go_simp; with_reducible rfl) | with_reducible rfl
      simp only [Act.put, List.setIfInBounds_toArray, List.set_cons_zero, List.set_cons_succ]
      refine tk (v := ?_) 18 ?_ ?_
      rotate_left
      · intro w hSw
        (try dsimp only at hSw)
        first | (go_simp; done) | (go_simp; with_reducible rfl) | with_reducible rfl
      simp only [Act.put, List.setIfInBounds_toArray, List.set_cons_zero, List.set_cons_succ]
      refine wpAnyH_ready (rs := [19]) (by kernel_rfl) (by simp) ?_
      refine AllReadyH.cons (by simp only [List.getElem?_toArray, List.getElem?_cons_succ, List.getElem?_cons_zero]; rfl) (fun K hK => ?_) AllReadyH.nil
      go_simp
      (go_at_call 162; refine (HK0.out _ (HO.out.new N1.out.drew) HB1.out).mono ?_; rintro e w3 ⟨v3, rfl, b3, O3', m3⟩; have B3 := hid b3; have M3 : Hid (Mod (fun k => B ≤ k) w w3) := hid ((New.mod (S := fun k => B ≤ k) N1.out.drew).trans m3); have O3 := hid O3'; clear b3 m3 O3')
      try dsimp only
      refine hK.out _ _ trivial (fun hHeld19 => ?_)
      clear hK K hHeld19
      try simp only [Act.put, List.setIfInBounds_toArray, List.set_cons_zero, List.set_cons_succ]
      refine tk (v := ?_) 20 ?_ ?_
      rotate_left
      · intro w hSw
        (try dsimp only at hSw)
        first | (go_simp; done) | (go_simp; with_reducible rfl) | with_reducible rfl
      simp only [Act.put, List.setIfInBounds_toArray, List.set_cons_zero, List.set_cons_succ]
      refine tk (v := ?_) 21 ?_ ?_
      rotate_left
      · intro w hSw
        (try dsimp only at hSw)
        first | (go_simp; done) | (go_simp; with_reducible rfl) | with_reducible rfl
      simp only [Act.put, List.setIfInBounds_toArray, List.set_cons_zero, List.set_cons_succ]
      refine wpAnyH_done (by kernel_rfl) ?_ _
      have d3 := B3.out.cellv 3 rfl
      clear d4
      go_wp2
      exact ⟨rfl, rfl, M3.out⟩
    | true =>
      rw [hn, if_pos rfl] at ho
      rw [hn] at HK0
      subst ho
      clear hp hph hval hn
      have dB := HB.out.lt
      go_enter Tryz.func116, Tryz.ntmps116
      go_wp2_with fail
      refine (HIB.out _).mono ?_
      rintro e w0' ⟨rfl, rfl⟩
      go_wp2_with fail
      go_region_held3 (fun w' => True) (trivial) ((go_at_call 146; refine (HLN.out _).mono ?_; rintro e w1 ⟨b, rfl, hf1, n1⟩; have lk := HMS.out w1 b hf1; have N1 : Hid (New w w1) := hid (((Mod.refl _ w).drew).trans n1); clear hf1 n1))
      go_wp2_with fail
      have HB1 := hid (N1.out.blk HB.out)
      have HO1 := hid (HO.out.new N1.out)
      have d3 := HB1.out.cellv 3 rfl; have d4 := HB1.out.cellv 4 rfl
      refine wp_region_held_drew (S := (fun _ => True)) (by kernel_rfl) trivial (fun hHeld => ?_)
      refine tk (v := ?_) 0 ?_ ?_
      rotate_left
      · intro w hSw
        (try dsimp only at hSw)
        first | (go_simp; done) | (go_simp; with_reducible rfl) | with_reducible rfl
      simp only [Act.put, List.setIfInBounds_toArray, List.set_cons_zero, List.set_cons_succ]
      refine tk (v := ?_) 1 ?_ ?_
      rotate_left
      · intro w hSw
        (try dsimp only at hSw)
        first | (go_simp; done) | (go_simp; with_reducible rfl) | with_reducible rfl
      simp only [Act.put, List.setIfInBounds_toArray, List.set_cons_zero, List.set_cons_succ]
      refine tk (v := ?_) 2 ?_ ?_
      rotate_left
      · intro w hSw
        (try dsimp only at hSw)
        first | (go_simp; done) | (go_simp; with_reducible rfl) | with_reducible rfl
      simp only [Act.put, List.setIfInBounds_toArray, List.set_cons_zero, List.set_cons_succ]
      refine tk (v := ?_) 3 ?_ ?_
      rotate_left
      · intro w hSw
        (try dsimp only at hSw)
        first | (go_simp; done) | (go_simp; with_reducible rfl) | with_reducible rfl
      simp only [Act.put, List.setIfInBounds_toArray, List.set_cons_zero, List.set_cons_succ]
      refine tk (v := ?_) 4 ?_ ?_
      rotate_left
      · intro w hSw
        (try dsimp only at hSw)
        first | (go_simp; done) | (go_simp; with_reducible rfl) | with_reducible rfl
      simp only [Act.put, List.setIfInBounds_toArray, List.set_cons_zero, List.set_cons_succ]
      refine tk (v := ?_) 5 ?_ ?_
      rotate_left
      · intro w hSw
        (try dsimp only at hSw)
        first | (go_simp; done) | (go_simp; with_reducible rfl) | with_reducible rfl
      simp only [Act.put, List.setIfInBounds_toArray, List.set_cons_zero, List.set_cons_succ]
      refine tk (v := ?_) 7 ?_ ?_
      rotate_left
      · intro w hSw
        (try dsimp only at hSw)
        first | (go_simp; done) | (go_simp; with_reducible rfl) | with_reducible rfl
      simp only [Act.put, List.setIfInBounds_toArray, List.set_cons_zero, List.set_cons_succ]
      refine tk (v := ?_) 8 ?_ ?_
      rotate_left
      · intro w hSw
        (try dsimp only at hSw)
        first | (go_simp; done) | (go_simp; with_reducible rfl) | with_reducible rfl
      simp only [Act.put, List.setIfInBounds_toArray, List.set_cons_zero, List.set_cons_succ]
      refine tk (v := ?_) 9 ?_ ?_
      rotate_left
      · intro w hSw
        (try dsimp only at hSw)
        first | (go_simp; done) | (go_simp; with_reducible rfl) | with_reducible rfl
      simp only [Act.put, List.setIfInBounds_toArray, List.set_cons_zero, List.set_cons_succ]
      refine wpAnyH_ready (rs := [6]) (by kernel_rfl) (by simp) ?_
      refine AllReadyH.cons (by simp only [List.getElem?_toArray, List.getElem?_cons_succ, List.getElem?_cons_zero]; rfl) (fun K hK => ?_) AllReadyH.nil
      go_simp
      refine hK.out _ _ trivial (fun hHeld6 => ?_)
      clear hK K hHeld6
      try simp only [Act.put, List.setIfInBounds_toArray, List.set_cons_zero, List.set_cons_succ]
      refine wpAnyH_ready (rs := [10]) (by kernel_rfl) (by simp) ?_
      refine AllReadyH.cons (by simp only [List.getElem?_toArray, List.getElem?_cons_succ, List.getElem?_cons_zero]; rfl) (fun K hK => ?_) AllReadyH.nil
      go_simp
      (go_at_call 147; refine (HC.out _ N1.out.drew).mono ?_; rintro e w2 ⟨rfl, rfl⟩)
      try dsimp only
      refine hK.out _ _ trivial (fun hHeld10 => ?_)
      clear hK K hHeld10
      try simp only [Act.put, List.setIfInBounds_toArray, List.set_cons_zero, List.set_cons_succ]
      refine tk (v := ?_) 11 ?_ ?_
      rotate_left
      · intro w hSw
        (try dsimp only at hSw)
        first | (go_simp; done) | (go_simp; with_reducible rfl) | with_reducible rfl
      simp only [Act.put, List.setIfInBounds_toArray, List.set_cons_zero, List.set_cons_succ]
      refine tk (v := ?_) 12 ?_ ?_
      rotate_left
      · intro w hSw
        (try dsimp only at hSw)
        first | (go_simp; done) | (go_simp; with_reducible rfl) | with_reducible rfl
      simp only [Act.put, List.setIfInBounds_toArray, List.set_cons_zero, List.set_cons_succ]
      refine tk (v := ?_) 13 ?_ ?_
      rotate_left
      · intro w hSw
        (try dsimp only at hSw)
        first | (go_simp; done) | (go_simp; with_reducible rfl) | with_reducible rfl
      simp only [Act.put, List.setIfInBounds_toArray, List.set_cons_zero, List.set_cons_succ]
      refine tk (v := ?_) 14 ?_ ?_
      rotate_left
      · intro w hSw
        (try dsimp only at hSw)
        first | (go_simp; done) | (go_simp; with_reducible rfl) | with_reducible rfl
      simp only [Act.put, List.setIfInBounds_toArray, List.set_cons_zero, List.set_cons_succ]
      refine tk (v := ?_) 15 ?_ ?_
      rotate_left
      · intro w hSw
        (try dsimp only at hSw)
        first | (go_simp; done) | (go_simp; with_reducible rfl) | with_reducible rfl
      simp only [Act.put, List.setIfInBounds_toArray, List.set_cons_zero, List.set_cons_succ]
      refine tk (v := ?_) 16 ?_ ?_
      rotate_left
      · intro w hSw
        (try dsimp only at hSw)
        first | (go_simp; done) | (go_simp; with_reducible rfl) | with_reducible rfl
      simp only [Act.put, List.setIfInBounds_toArray, List.set_cons_zero, List.set_cons_succ]
      refine tk (v := ?_) 17 ?_ ?_
      rotate_left
      · intro w hSw
        (try dsimp only at hSw)
        first | (go_simp; done) | (go_simp; with_reducible rfl) | with_reducible rfl
      simp only [Act.put, List.setIfInBounds_toArray, List.set_cons_zero, List.set_cons_succ]
      refine tk (v := ?_) 18 ?_ ?_
      rotate_left
      · intro w hSw
        (try dsimp only at hSw)
        first | (go_simp; done) | (go_simp; with_reducible rfl) | with_reducible rfl
      simp only [Act.put, List.setIfInBounds_toArray, List.set_cons_zero, List.set_cons_succ]
      refine wpAnyH_ready (rs := [19]) (by kernel_rfl) (by simp) ?_
      refine AllReadyH.cons (by simp only [List.getElem?_toArray, List.getElem?_cons_succ, List.getElem?_cons_zero]; rfl) (fun K hK => ?_) AllReadyH.nil
      go_simp
      (go_at_call 162; refine (HK0.out _ (HO.out.new N1.out.drew) HB1.out).mono ?_; rintro e w3 ⟨v3, rfl, b3, O3', m3⟩; have B3 := hid b3; have M3 : Hid (Mod (fun k => B ≤ k) w w3) := hid ((New.mod (S := fun k => B ≤ k) N1.out.drew).trans m3); have O3 := hid O3'; clear b3 m3 O3')
      try dsimp only
      refine hK.out _ _ trivial (fun hHeld19 => ?_)
      clear hK K hHeld19
      try simp only [Act.put, List.setIfInBounds_toArray, List.set_cons_zero, List.set_cons_succ]
      refine tk (v := ?_) 20 ?_ ?_
      rotate_left
      · intro w hSw
        (try dsimp only at hSw)
        first | (go_simp; done) | (go_simp; with_reducible rfl) | with_reducible rfl
      simp only [Act.put, List.setIfInBounds_toArray, List.set_cons_zero, List.set_cons_succ]
      refine tk (v := ?_) 21 ?_ ?_
      rotate_left
      · intro w hSw
        (try dsimp only at hSw)
        first | (go_simp; done) | (go_simp; with_reducible rfl) | with_reducible rfl
      simp only [Act.put, List.setIfInBounds_toArray, List.set_cons_zero, List.set_cons_succ]
      refine wpAnyH_done (by kernel_rfl) ?_ _
      have d3 := B3.out.cellv 3 rfl
      clear d4
      go_wp2
      go_end0
      exact ⟨⟨rfl, _, B3.out, O3.out⟩, M3.out⟩
theorem take_any (B : Nat) (ln : Int) (s : RdS) (x : ByteArray) (w0 w : World) (h : TkIn w0 w B ln s x) :
    Calls Tryz.prog 116 #[.pointer (some ⟨B, 0, none⟩), .string x] w fun e w' => TkOut B ln (takeP s x.data.toList) e w' ∧ Mod (fun k => B ≤ k) w w' := by
  have hke := key_ext x
  have hiff : ∀ (k : ByteArray), x.extract 0 (keyLen x.data.toList) = k ↔ x.data.toList.take (keyLen x.data.toList) = k.data.toList := fun k => by
    rw [← hke]
    exact ⟨fun q => by rw [q], fun q => bytes_ext q⟩
  have n1 : kPort ≠ kName := by decide
  by_cases h1 : x.extract 0 (keyLen x.data.toList) = kPort
  · have e1 : x.data.toList.take (keyLen x.data.toList) = portL := (hiff _).1 h1
    by_cases hp : s.ph = 0
    · exact take_portYes B ln s x w0 w h h1 hp _ (by unfold takeP; rw [if_pos e1, if_pos hp]; rfl)
    · have e : takeP s x.data.toList = none := by unfold takeP; rw [if_pos e1, if_neg hp]
      rw [e]
      exact take_portNo B ln s x w0 w h h1 hp
  have e1 : ¬ x.data.toList.take (keyLen x.data.toList) = portL := fun q => h1 ((hiff _).2 q)
  by_cases h2 : x.extract 0 (keyLen x.data.toList) = kName
  · have e2 : x.data.toList.take (keyLen x.data.toList) = nameL := (hiff _).1 h2
    by_cases hp : s.ph = 1 ∨ s.ph = 2
    · exact take_nameYes B ln s x w0 w h h2 hp _ (by unfold takeP; rw [if_neg e1, if_pos e2, if_pos hp]; rfl)
    · have e : takeP s x.data.toList = none := by unfold takeP; rw [if_neg e1, if_pos e2, if_neg hp]
      rw [e]
      exact take_nameNo B ln s x w0 w h h2 hp
  have e2 : ¬ x.data.toList.take (keyLen x.data.toList) = nameL := fun q => h2 ((hiff _).2 q)
  by_cases h3 : x.extract 0 (keyLen x.data.toList) = kCook
  · have e3 : x.data.toList.take (keyLen x.data.toList) = cookL := (hiff _).1 h3
    by_cases hp : s.ph = 2
    · exact take_cookYes B ln s x w0 w h h3 hp _ (by unfold takeP; rw [if_neg e1, if_neg e2, if_pos e3, if_pos hp])
    · have e : takeP s x.data.toList = none := by unfold takeP; rw [if_neg e1, if_neg e2, if_pos e3, if_neg hp]
      rw [e]
      exact take_cookNo B ln s x w0 w h h3 hp
  have e3 : ¬ x.data.toList.take (keyLen x.data.toList) = cookL := fun q => h3 ((hiff _).2 q)
  have e : takeP s x.data.toList = none := by unfold takeP; rw [if_neg e1, if_neg e2, if_neg e3]
  rw [e]
  exact take_miss B ln s x w0 w h.rd h.size h1 h2 h3
end Go.Proofs.YtnflhjagmngimaaGreatDoor
