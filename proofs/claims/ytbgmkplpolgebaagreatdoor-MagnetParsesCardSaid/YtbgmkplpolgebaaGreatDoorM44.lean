/-
  Several texts in one, in their build order. What is read of a magnet's text is right. Plain Lean, no program. No condition. The walk of Parse on the one text by which the law looks whether the program is awake. Condition: the library's variable is as laid. The walk of Parse on the law's text, and of awake. Condition: the library's variable is as laid. The walk of Parse (package magnet), for any text. Conditions: the library's variables are as laid.
-/
import Derived.Test.YtbgmkplpolgebaaGreatDoorM37
import Derived.Test.YtbgmkplpolgebaaGreatDoorM34
import Derived.Test.YtbgmkplpolgebaaGreatDoorM11
import Derived.Test.YtbgmkplpolgebaaGreatDoorM41
namespace Go.Proofs.YtbgmkplpolgebaaGreatDoor
set_option linter.unusedSimpArgs false
set_option linter.unusedVariables false

structure MgOk (m : MgV) : Prop where
  old : m.old.size = 0 ∨ m.old.size = 20
  new : m.new.size = 0 ∨ m.new.size = 32
  name : m.name.size ≤ 100
  tr : ∀ s ∈ m.tr, 1 ≤ s.size ∧ s.size ≤ 200
  trl : m.tr.length ≤ 10
  ws : ∀ s ∈ m.ws, 1 ≤ s.size ∧ s.size ≤ 200
  wsl : m.ws.length ≤ 10
  pe : ∀ a ∈ m.pe, adrOk a = true
  pel : m.pe.length ≤ 20
  on : ∃ f, FieldOf 40 f ∧ m.on = runsF 40 f
theorem runsF_zero (n : Nat) : runsF n (zerosL n) = [] := by
  unfold runsF
  have : numsL n (zerosL n) = [] := by
    unfold numsL
    rw [List.filter_eq_nil_iff]
    intro j _
    unfold zerosL
    rw [bitL_zero]
    decide
  rw [this]
  rfl
theorem MgOk.zero : MgOk mg0 := ⟨.inl rfl, .inl rfl, by decide, by simp [mg0], by decide, by simp [mg0], by decide, by simp [mg0], by decide, ⟨zerosL 40, FieldOf.zero 40, (runsF_zero 40).symm⟩⟩
theorem hexC_len {s x : List UInt8} (h : hexC s = some x) : s.length = 2 * x.length := by
  unfold hexC at h
  have := congrArg List.length (hex_unhex _ h)
  rw [List.length_map, hex_len] at this
  exact this
theorem tO_size {r r' : RdM} {s : ByteArray} (h : tO r s = .ok r') (ho : r.old.size = 0 ∨ r.old.size = 20) : r'.old.size = 0 ∨ r'.old.size = 20 := by
  unfold tO at h
  split at h
  · split at h
    · cases h
    · next hsz =>
      split at h
      · cases h
      · next x hx =>
        split at h
        · cases h
        · injection h with h
          subst h
          have := hexC_len hx
          have hl : (digU uOld s).data.toList.length = (digU uOld s).size := by rw [Array.length_toList]; rfl
          right
          show (⟨x.toArray⟩ : ByteArray).size = 20
          rw [show (⟨x.toArray⟩ : ByteArray).size = x.length by simp [ByteArray.size]]
          simp only [ne_eq, Decidable.not_not] at hsz
          omega
  · injection h with h
    subst h
    exact ho
theorem tN_size {r r' : RdM} {s : ByteArray} (h : tN r s = .ok r') (ho : r.new.size = 0 ∨ r.new.size = 32) : r'.new.size = 0 ∨ r'.new.size = 32 := by
  unfold tN at h
  split at h
  · split at h
    · cases h
    · next hsz =>
      split at h
      · cases h
      · next x hx =>
        split at h
        · cases h
        · injection h with h
          subst h
          have := hexC_len hx
          have hl : (digU uNew s).data.toList.length = (digU uNew s).size := by rw [Array.length_toList]; rfl
          right
          show (⟨x.toArray⟩ : ByteArray).size = 32
          rw [show (⟨x.toArray⟩ : ByteArray).size = x.length by simp [ByteArray.size]]
          simp only [ne_eq, Decidable.not_not] at hsz
          omega
  · injection h with h
    subst h
    exact ho
theorem topM_ok {m m' : MgV} {s : ByteArray} (h : topM m s = .ok m') (k : MgOk m) : MgOk m' := by
  unfold topM topicR at h
  cases h1 : tO (rdZero m) s with
  | error e => rw [h1] at h; cases h
  | ok q =>
    rw [h1] at h
    simp only at h
    cases h2 : tN q s with
    | error e => rw [h2] at h; cases h
    | ok q' =>
      rw [h2] at h
      injection h with h
      subst h
      have e1 := (tO_rest h1).2.2.2.2.2.2.2
      have e2 := (tN_rest h2).2.2.2.2.2.2.2
      refine ⟨?_, ?_, k.name, k.tr, k.trl, k.ws, k.wsl, k.pe, k.pel, k.on⟩
      · show q'.old.size = 0 ∨ _
        rw [e2]
        exact tO_size h1 k.old
      · exact tN_size h2 (by rw [e1]; exact k.new)
theorem nameM_ok {m m' : MgV} {s : List UInt8} (h : nameM m s = .ok m') (k : MgOk m) : MgOk m' := by
  unfold nameM at h
  split at h
  · cases h
  · next x hx =>
    split at h
    · cases h
    · next c =>
      split at h
      · cases h
      · injection h with h
        subst h
        refine ⟨k.old, k.new, ?_, k.tr, k.trl, k.ws, k.wsl, k.pe, k.pel, k.on⟩
        show (mkB x).size ≤ 100
        rw [show (mkB x).size = x.length by simp [mkB, ByteArray.size]]
        omega
theorem textP_ok {l l' : List ByteArray} {s : List UInt8} (h : textP l s = .ok l') (h1 : ∀ s ∈ l, 1 ≤ s.size ∧ s.size ≤ 200) (h2 : l.length ≤ 10) : (∀ s ∈ l', 1 ≤ s.size ∧ s.size ≤ 200) ∧ l'.length ≤ 10 := by
  unfold textP at h
  split at h
  · cases h
  · next x hx =>
    split at h
    · cases h
    · next c =>
      split at h
      · cases h
      · next c2 =>
        injection h with h
        subst h
        refine ⟨fun y hy => ?_, by rw [List.length_append, List.length_singleton]; omega⟩
        rcases List.mem_append.1 hy with q | q
        · exact h1 y q
        · simp only [List.mem_singleton] at q
          subst q
          rw [show (mkB x).size = x.length by simp [mkB, ByteArray.size]]
          have : x.length ≠ 0 := fun e => c (.inl (List.eq_nil_of_length_eq_zero e))
          omega
theorem trM_ok {m m' : MgV} {s : List UInt8} (h : trM m s = .ok m') (k : MgOk m) : MgOk m' := by
  unfold trM at h
  split at h
  · next l hl =>
    injection h with h
    subst h
    obtain ⟨h1, h2⟩ := textP_ok hl k.tr k.trl
    exact ⟨k.old, k.new, k.name, h1, h2, k.ws, k.wsl, k.pe, k.pel, k.on⟩
  · cases h
theorem wsM_ok {m m' : MgV} {s : List UInt8} (h : wsM m s = .ok m') (k : MgOk m) : MgOk m' := by
  unfold wsM at h
  split at h
  · next l hl =>
    injection h with h
    subst h
    obtain ⟨h1, h2⟩ := textP_ok hl k.ws k.wsl
    exact ⟨k.old, k.new, k.name, k.tr, k.trl, h1, h2, k.pe, k.pel, k.on⟩
  · cases h
theorem peM_ok {m m' : MgV} {s : List UInt8} (h : peM m s = .ok m') (k : MgOk m) : MgOk m' := by
  unfold peM at h
  split at h
  · cases h
  · next x hx =>
    split at h
    · cases h
    · next a ha =>
      split at h
      · cases h
      · next c =>
        injection h with h
        subst h
        refine ⟨k.old, k.new, k.name, k.tr, k.trl, k.ws, k.wsl, fun y hy => ?_, ?_, k.on⟩
        · rcases List.mem_append.1 hy with q | q
          · exact k.pe y q
          · simp only [List.mem_singleton] at q
            subst q
            exact (aP_text ha).1
        · show (m.pe ++ [a]).length ≤ 20
          rw [List.length_append, List.length_singleton]
          omega
theorem soM_ok {m m' : MgV} {s : List UInt8} (h : soM m s = .ok m') (k : MgOk m) : MgOk m' := by
  unfold soM at h
  split at h
  · cases h
  · next f hf =>
    split at h
    · cases h
    · split at h
      · cases h
      · injection h with h
        subst h
        exact ⟨k.old, k.new, k.name, k.tr, k.trl, k.ws, k.wsl, k.pe, k.pel, ⟨f, bitsP_field hf, rfl⟩⟩
theorem partM_ok {m m' : MgV} {key value : List UInt8} (h : partM m key value = .ok m') (k : MgOk m) : MgOk m' := by
  unfold partM at h
  split at h
  · exact topM_ok h k
  · split at h
    · exact nameM_ok h k
    · split at h
      · exact trM_ok h k
      · split at h
        · exact wsM_ok h k
        · split at h
          · exact peM_ok h k
          · split at h
            · exact soM_ok h k
            · injection h with h
              subst h
              exact k
theorem pieceM_ok {m m' : MgV} {p : List UInt8} (h : pieceM m p = .ok m') (k : MgOk m) : MgOk m' := by
  unfold pieceM at h
  split at h
  · exact partM_ok h k
  · cases h
theorem foldM_ok : ∀ {A : List (List UInt8)} {m m' : MgV}, foldM m A = .ok m' → MgOk m → MgOk m'
  | [], m, m', h, k => by
    injection h with h
    subst h
    exact k
  | p :: A, m, m', h, k => by
    simp only [foldM] at h
    cases hp : pieceM m p with
    | error e => rw [hp] at h; cases h
    | ok m1 =>
      rw [hp] at h
      exact foldM_ok h (pieceM_ok hp k)
/-- What is read is right, and has a topic. -/
theorem magP_ok {s : List UInt8} {m : MgV} (h : magP s = .ok m) : MgOk m ∧ ¬ (m.old.data.toList = [] ∧ m.new.data.toList = []) := by
  unfold magP at h
  split at h
  · cases h
  · split at h
    · unfold restM at h
      split at h
      · cases h
      · next m1 h1 =>
        unfold endM at h
        split at h
        · cases h
        · next c =>
          injection h with h
          subst h
          exact ⟨foldM_ok h1 MgOk.zero, c⟩
    · cases h
end Go.Proofs.YtbgmkplpolgebaaGreatDoor

namespace Go.Proofs.YtbgmkplpolgebaaGreatDoor
set_option linter.unusedSimpArgs false
set_option linter.unusedVariables false
open Go.RowKit Go.Shelf

def kA : ByteArray := ⟨#[109, 97, 103, 110, 101, 116, 58, 63, 120, 116, 61, 117, 114, 110, 58, 99, 118, 111, 58, 48, 48, 48, 48, 48, 48, 48, 48, 48, 48, 48, 48, 48, 48, 48, 48, 48, 48, 48, 48, 48, 48, 48, 48, 48, 48, 48, 48, 48, 48, 48, 48, 48, 48, 48, 48, 48, 48, 48, 48, 38, 100, 110, 61, 97, 37, 50, 48, 98]⟩
def kR : ByteArray := ⟨#[120, 116, 61, 117, 114, 110, 58, 99, 118, 111, 58, 48, 48, 48, 48, 48, 48, 48, 48, 48, 48, 48, 48, 48, 48, 48, 48, 48, 48, 48, 48, 48, 48, 48, 48, 48, 48, 48, 48, 48, 48, 48, 48, 48, 48, 48, 48, 48, 48, 48, 48, 38, 100, 110, 61, 97, 37, 50, 48, 98]⟩
def kP0 : ByteArray := ⟨#[120, 116, 61, 117, 114, 110, 58, 99, 118, 111, 58, 48, 48, 48, 48, 48, 48, 48, 48, 48, 48, 48, 48, 48, 48, 48, 48, 48, 48, 48, 48, 48, 48, 48, 48, 48, 48, 48, 48, 48, 48, 48, 48, 48, 48, 48, 48, 48, 48, 48, 48]⟩
def kP1 : ByteArray := ⟨#[100, 110, 61, 97, 37, 50, 48, 98]⟩
def kV0 : ByteArray := ⟨#[117, 114, 110, 58, 99, 118, 111, 58, 48, 48, 48, 48, 48, 48, 48, 48, 48, 48, 48, 48, 48, 48, 48, 48, 48, 48, 48, 48, 48, 48, 48, 48, 48, 48, 48, 48, 48, 48, 48, 48, 48, 48, 48, 48, 48, 48, 48, 48]⟩
def kV1 : ByteArray := ⟨#[97, 37, 50, 48, 98]⟩
def kZ : ByteArray := ⟨#[0, 0, 0, 0, 0, 0, 0, 0, 0, 0, 0, 0, 0, 0, 0, 0, 0, 0, 0, 0]⟩
def kN : ByteArray := ⟨#[97, 32, 98]⟩
def rdA : RdM := ⟨⟨#[]⟩, ⟨#[]⟩, ⟨#[]⟩, .slice none 0 0, .slice none 0 0, .slice none 0 0, .slice none 0 0, false, false⟩
def rdB : RdM := { rdA with old := kZ }
def rdC : RdM := { rdB with name := kN, named := true }
/-- What the library's variable is. -/
def VarM (w : World) : Prop := ∃ m : Int, w.cell? ⟨0, 0, none⟩ = some (.int .i64 m)
theorem VarM.new {w w' : World} (h : VarM w) (n : New w w') : VarM w' := by
  obtain ⟨m, hm⟩ := h
  exact ⟨m, New.cellv n hm⟩
theorem k_topic : topicR rdA kV0 = .ok rdB := by
  have h1 : isU uOld kV0 = true := by decide +kernel
  have h2 : (digU uOld kV0).size = 40 := by decide +kernel
  have h3 : hexC (digU uOld kV0).data.toList = some kZ.data.toList := by decide +kernel
  have h4 : isU uNew kV0 = false := by decide +kernel
  have h5 : tO rdA kV0 = .ok rdB := by
    unfold tO
    rw [if_pos h1, if_neg (by omega), h3]
    simp only
    rw [if_neg (by decide +kernel)]
    rfl
  rw [topic_yes h5]
  unfold tN
  rw [if_neg (by rw [h4]; decide)]
theorem k_dn : dnR rdB kV1.data.toList = .ok rdC := by
  have h : loose kV1.data.toList = some kN.data.toList := by
    show loose [97, 37, 50, 48, 98] = _
    rw [loose_plain (by decide), loose_hex, show hexC [50, 48] = some [32] by decide +kernel]
    simp only
    rw [loose_plain (by decide), loose_nil]
    rfl
  unfold dnR
  rw [h]
  simp only
  rw [if_neg (by decide +kernel), if_neg (by decide)]
  rfl
theorem k_split : Lib.splitB ⟨#[38]⟩ 0 (Lib.countB kR ⟨#[38]⟩) kR = [kP0, kP1] := by decide +kernel
theorem k_count : Lib.countB kR ⟨#[38]⟩ = 1 := by decide +kernel
theorem k_prefix (W : World) : Calls Tryz.prog 22 #[.string kA, .string ⟨#[109, 97, 103, 110, 101, 116, 58, 63]⟩] W fun e w' => e = .returned (.tuple #[.string kR, .bool true]) ∧ W = w' := by
  refine (Tryz.strings_CutPrefix kA _ W).mono ?_
  rintro e w' ⟨rfl, rfl⟩
  refine ⟨?_, rfl⟩
  rw [show (⟨(Lib.trimPrefix kA.data.toList (⟨#[109, 97, 103, 110, 101, 116, 58, 63]⟩ : ByteArray).data.toList).toArray⟩ : ByteArray) = kR by decide +kernel, show Lib.hasPrefix kA.data.toList (⟨#[109, 97, 103, 110, 101, 116, 58, 63]⟩ : ByteArray).data.toList = true by decide +kernel]
theorem k_splits (W : World) (h : VarM W) : Calls Tryz.prog 24 #[.string kR, .string ⟨#[38]⟩] W fun e w' => e = .returned (.slice (some ⟨W.heap.size, 0, none⟩) 2 2) ∧ w' = W.alloc (.cells #[.string kP0, .string kP1] 9) := by
  obtain ⟨m, hm⟩ := h
  refine (Tryz.strings_Split kR ⟨#[38]⟩ m W (by decide +kernel) hm (by decide)).mono ?_
  rintro e w' ⟨rfl, rfl⟩
  rw [k_split, k_count]
  exact ⟨rfl, rfl⟩
theorem k_cut0 (W : World) (h : VarM W) : Calls Tryz.prog 25 #[.string kP0, .string ⟨#[61]⟩] W fun e w' => e = .returned (.tuple #[.string pXt, .string kV0, .bool true]) ∧ New W w' := by
  obtain ⟨m, hm⟩ := h
  refine (Tryz.strings_Cut kP0 ⟨#[61]⟩ m W (by decide +kernel) hm).mono ?_
  rintro e w' ⟨rfl, n, rfl⟩
  rw [show (⟨(Lib.cut kP0.data.toList (⟨#[61]⟩ : ByteArray).data.toList).1.toArray⟩ : ByteArray) = pXt by decide +kernel, show (⟨(Lib.cut kP0.data.toList (⟨#[61]⟩ : ByteArray).data.toList).2.1.toArray⟩ : ByteArray) = kV0 by decide +kernel, show (Lib.cut kP0.data.toList (⟨#[61]⟩ : ByteArray).data.toList).2.2 = true by decide +kernel]
  exact ⟨rfl, (Mod.refl _ _).drewN _⟩
theorem k_cut1 (W : World) (h : VarM W) : Calls Tryz.prog 25 #[.string kP1, .string ⟨#[61]⟩] W fun e w' => e = .returned (.tuple #[.string pDn, .string kV1, .bool true]) ∧ New W w' := by
  obtain ⟨m, hm⟩ := h
  refine (Tryz.strings_Cut kP1 ⟨#[61]⟩ m W (by decide +kernel) hm).mono ?_
  rintro e w' ⟨rfl, n, rfl⟩
  rw [show (⟨(Lib.cut kP1.data.toList (⟨#[61]⟩ : ByteArray).data.toList).1.toArray⟩ : ByteArray) = pDn by decide +kernel, show (⟨(Lib.cut kP1.data.toList (⟨#[61]⟩ : ByteArray).data.toList).2.1.toArray⟩ : ByteArray) = kV1 by decide +kernel, show (Lib.cut kP1.data.toList (⟨#[61]⟩ : ByteArray).data.toList).2.2 = true by decide +kernel]
  exact ⟨rfl, (Mod.refl _ _).drewN _⟩
end Go.Proofs.YtbgmkplpolgebaaGreatDoor

namespace Go.Proofs.YtbgmkplpolgebaaGreatDoor
set_option linter.unusedSimpArgs false
set_option linter.unusedVariables false
open Go.RowKit Go.Shelf

def magA : Value := .agg #[.string kZ, .string ⟨#[]⟩, .string kN, .slice none 0 0, .slice none 0 0, .slice none 0 0, .slice none 0 0]
theorem run_equalIn_func_nil {P : Program} (w : World) (d : Nat) {t : TypeId} {p r : Array TypeId} {v : Bool} (f : Fn) (a b : Array Value) (h : P.underlying t = some (.func p r v)) :
    (Op.equalIn (d + 1) t (.func f a b) .nilFunc).run P w = .ok false w := by simp [Op.equalIn, run_underlying h]
theorem neq_fn (f : Fn) (a b : Array Value) (w : World) : (binOp .neq 53 (.func f a b) .nilFunc).run Tryz.prog w = .ok (.bool true) w := by
  simp only [binOp]
  simp [Op.equal, Op.maxDepth, run_equalIn_func_nil w 9999 f a b Tryz.underlying53]
theorem pm_results (tmps : Array Value) (w : World) (p q : Nat) (m0 m1 m2 m3 m4 m5 m6 : Value) (c : Int) (hp : Blk w p #[m0, m1, m2, m3, m4, m5, m6] 27) (hr : Blk w q #[.int .i64 c] 28)
    (h2 : tmps.getD 2 undef = .pointer (some ⟨p, 0, none⟩)) (h3 : tmps.getD 3 undef = .pointer (some ⟨q, 0, none⟩)) :
    (results Tryz.f8 tmps).run Tryz.prog w = .ok (.tuple #[.agg #[m0, m1, m2, m3, m4, m5, m6], .int .i64 c]) w := by
  have p0 := hp.cellv 0 rfl; have p1 := hp.cellv 1 rfl; have p2 := hp.cellv 2 rfl; have p3 := hp.cellv 3 rfl; have p4 := hp.cellv 4 rfl; have p5 := hp.cellv 5 rfl; have p6 := hp.cellv 6 rfl
  obtain ⟨r1, -, -⟩ := hr.one
  have h2' : tmps[2]?.getD undef = .pointer (some ⟨p, 0, none⟩) := by simpa using h2
  have h3' : tmps[3]?.getD undef = .pointer (some ⟨q, 0, none⟩) := by simpa using h3
  simp [results, Tryz.results8, h2', h3', asAddr, go_sem, p0, p1, p2, p3, p4, p5, p6, r1, Result.andThen]
set_option maxRecDepth 100000 in
set_option maxHeartbeats 4000000 in
theorem parse_awake (w : World) (hv : VarM w) : Calls Tryz.prog 8 #[.string kA] w fun e w' => e = .returned (.tuple #[magA, .int .i64 0]) ∧ New w w' := by
  have HV := hid hv
  have hfn := neq_fn
  have hK : ¬ (65536 : Int) < (kA.size : Int) := by decide +kernel
  have hRe : (kR.toList == []) = false := by decide +kernel
  have hZe : (kZ.toList == []) = false := by decide +kernel
  have hadd : ∀ w, (Op.stringOp .add kZ ⟨#[]⟩).run Tryz.prog w = .ok (.string kZ) w := fun w => run_string_add_sum (w := w) _ _ (by decide +kernel)
  have HNA : Hid (New w (((w.alloc (.cells #[.string ⟨#[]⟩, .string ⟨#[]⟩, .string ⟨#[]⟩, .slice none 0 0, .slice none 0 0, .slice none 0 0, .slice none 0 0] 27)).alloc (.cells #[.int .i64 0] 28)).alloc (.cells (rdRow rdA) 49))) := hid (((Mod.refl _ _).alloc _).alloc _ |>.alloc _)
  clear hv
  go_enter_defers Tryz.func8, Tryz.ntmps8
  go_wp2_with fail
  refine (k_prefix _).mono ?_
  rintro e w3 ⟨rfl, rfl⟩
  go_wp2_with fail
  refine (need_yes 2 _).mono ?_
  rintro e w3 ⟨rfl, rfl⟩
  go_wp2_with fail
  refine (k_splits _ (HV.out.new HNA.out)).mono ?_
  rintro e w3 ⟨rfl, rfl⟩
  go_wp2_with fail
  go_loopw [27] (fun x wr => ∃ (r1 : RdM), Blk wr (w.heap.size + 1 + 1) (rdRow r1) 49 ∧ Blk wr w.heap.size #[.string ⟨#[]⟩, .string ⟨#[]⟩, .string ⟨#[]⟩, .slice none 0 0, .slice none 0 0, .slice none 0 0, .slice none 0 0] 27 ∧ Blk wr (w.heap.size + 1) #[.int .i64 0] 28 ∧ Blk wr (w.heap.size + 1 + 1 + 1) #[.string kP0, .string kP1] 9 ∧ New w wr ∧ ((x = .int .i64 0 ∧ r1 = rdA) ∨ (x = .int .i64 1 ∧ r1 = rdB) ∨ (x = .int .i64 2 ∧ r1 = rdC))) (fun x _ => 2 - (intOf x).toNat)
  case atStart =>
    refine ⟨rdA, (Blk.newAt (by simp)).alloc _, ((Blk.new _ _ _).alloc _).alloc _ |>.alloc _, ((Blk.newAt (by simp)).alloc _).alloc _, Blk.newAt (by simp), HNA.out.alloc _, .inl ⟨rfl, rfl⟩⟩
  case round =>
    clear HNA
    obtain ⟨r1, hb, hm, he, hs, hn, hk⟩ := hrel
    have HB := hid hb; have HM := hid hm; have HE := hid he; have HS := hid hs; have HN := hid hn
    have hsl := hs.lt
    clear hb hm he hs hn
    rcases hk with ⟨rfl, rfl⟩ | ⟨rfl, rfl⟩ | ⟨rfl, rfl⟩
    · have c0 : wr.cell? ⟨w.heap.size + 1 + 1 + 1, 0, none⟩ = some (.string kP0) := HS.out.cellv 0 rfl
      go_wp2_with fail
      refine (k_cut0 _ (HV.out.new HN.out)).mono ?_
      rintro e w3 ⟨rfl, n3⟩
      have N3 := hid n3
      clear n3
      go_wp2_with fail
      refine (need_yes 2 _).mono ?_
      rintro e w4 ⟨rfl, rfl⟩
      go_wp2_with fail
      refine (parts_any _).mono ?_
      rintro e w5 ⟨b, x, y, rfl, hf, -, -, n5⟩
      have lk := plook_pXt hf
      have N5 := hid (N3.out.trans n5)
      clear hf n5
      go_wp2_with fail
      have B5 := New.blk N5.out HB.out
      refine (topic_any (w.heap.size + 1 + 1) rdA kV0 _ B5 (by decide +kernel)).mono ?_
      intro e w6 h6
      rw [k_topic] at h6
      obtain ⟨rfl, hb6, m6⟩ := h6
      have B6 := hid hb6
      have M6 := hid (m6.blk (New.blk N5.out HM.out) (by omega))
      have E6 := hid (m6.blk (New.blk N5.out HE.out) (by omega))
      have S6 := hid (m6.blk (New.blk N5.out HS.out) (by omega))
      have N6 := hid (Mod.trans' (HN.out.trans N5.out) m6 (fun j h1 h2 => by omega))
      clear hb6 m6 B5
      go_wp2
      exact ⟨⟨rdB, B6.out, M6.out, E6.out, S6.out, N6.out, .inr (.inl ⟨rfl, rfl⟩)⟩, by simp [intOf]⟩
    · have c0 : wr.cell? ⟨w.heap.size + 1 + 1 + 1, 1, none⟩ = some (.string kP1) := HS.out.cellv 1 rfl
      go_wp2_with fail
      refine (k_cut1 _ (HV.out.new HN.out)).mono ?_
      rintro e w3 ⟨rfl, n3⟩
      have N3 := hid n3
      clear n3
      go_wp2_with fail
      refine (need_yes 2 _).mono ?_
      rintro e w4 ⟨rfl, rfl⟩
      go_wp2_with fail
      refine (parts_any _).mono ?_
      rintro e w5 ⟨b, x, y, rfl, hf, -, -, n5⟩
      have lk := plook_pDn hf
      have N5 := hid (N3.out.trans n5)
      clear hf n5
      go_wp2_with fail
      have B5 := New.blk N5.out HB.out
      refine (dn_any (w.heap.size + 1 + 1) rdB kV1 _ B5 (by decide +kernel)).mono ?_
      intro e w6 h6
      rw [k_dn] at h6
      obtain ⟨rfl, hb6, m6⟩ := h6
      have B6 := hid hb6
      have M6 := hid (m6.blk (New.blk N5.out HM.out) (by omega))
      have E6 := hid (m6.blk (New.blk N5.out HE.out) (by omega))
      have S6 := hid (m6.blk (New.blk N5.out HS.out) (by omega))
      have N6 := hid (Mod.trans' (HN.out.trans N5.out) m6 (fun j h1 h2 => by omega))
      clear hb6 m6 B5
      go_wp2
      exact ⟨⟨rdC, B6.out, M6.out, E6.out, S6.out, N6.out, .inr (.inr ⟨rfl, rfl⟩)⟩, by simp [intOf]⟩
    · have d0 : wr.cell? ⟨w.heap.size + 1 + 1, 0, none⟩ = some (.string kZ) := HB.out.cellv 0 rfl
      have d1 : wr.cell? ⟨w.heap.size + 1 + 1, 1, none⟩ = some (.string ⟨#[]⟩) := HB.out.cellv 1 rfl
      have d2 : wr.cell? ⟨w.heap.size + 1 + 1, 2, none⟩ = some (.string kN) := HB.out.cellv 2 rfl
      have d3 : wr.cell? ⟨w.heap.size + 1 + 1, 3, none⟩ = some (.slice none 0 0) := HB.out.cellv 3 rfl
      have d4 : wr.cell? ⟨w.heap.size + 1 + 1, 4, none⟩ = some (.slice none 0 0) := HB.out.cellv 4 rfl
      have d5 : wr.cell? ⟨w.heap.size + 1 + 1, 5, none⟩ = some (.slice none 0 0) := HB.out.cellv 5 rfl
      have d6 : wr.cell? ⟨w.heap.size + 1 + 1, 6, none⟩ = some (.slice none 0 0) := HB.out.cellv 6 rfl
      have m0 : wr.cell? ⟨w.heap.size, 0, none⟩ = some (.string ⟨#[]⟩) := HM.out.cellv 0 rfl
      have m1 : wr.cell? ⟨w.heap.size, 1, none⟩ = some (.string ⟨#[]⟩) := HM.out.cellv 1 rfl
      have m2 : wr.cell? ⟨w.heap.size, 2, none⟩ = some (.string ⟨#[]⟩) := HM.out.cellv 2 rfl
      have m3 : wr.cell? ⟨w.heap.size, 3, none⟩ = some (.slice none 0 0) := HM.out.cellv 3 rfl
      have m4 : wr.cell? ⟨w.heap.size, 4, none⟩ = some (.slice none 0 0) := HM.out.cellv 4 rfl
      have m5 : wr.cell? ⟨w.heap.size, 5, none⟩ = some (.slice none 0 0) := HM.out.cellv 5 rfl
      have m6 : wr.cell? ⟨w.heap.size, 6, none⟩ = some (.slice none 0 0) := HM.out.cellv 6 rfl
      have ml := HM.out.lt
      have mf := HM.out.frz
      obtain ⟨e1, e2, e3⟩ := HE.out.one
      go_wp2_with fail
      refine (need_yes 8 _).mono ?_
      rintro e w4 ⟨rfl, rfl⟩
      go_wp2
      have b0 : Blk ((((((((wr.setCell ⟨w.heap.size, 0, none⟩ (.string kZ)).setCell ⟨w.heap.size, 1, none⟩ (.string ⟨#[]⟩)).setCell ⟨w.heap.size, 2, none⟩ (.string kN)).setCell ⟨w.heap.size, 3, none⟩ (.slice none 0 0)).setCell ⟨w.heap.size, 4, none⟩ (.slice none 0 0)).setCell ⟨w.heap.size, 5, none⟩ (.slice none 0 0)).setCell ⟨w.heap.size, 6, none⟩ (.slice none 0 0)).setCell ⟨w.heap.size + 1, 0, none⟩ (.int .i64 0)) w.heap.size #[.string kZ, .string ⟨#[]⟩, .string kN, .slice none 0 0, .slice none 0 0, .slice none 0 0, .slice none 0 0] 27 := by
        apply Blk.row
        · repeat (first | with_reducible exact HM.out | (with_reducible apply Blk.newAt; (simp; done)) | with_reducible apply Blk.alloc | with_reducible apply Blk.drew | with_reducible apply Blk.drewN | with_reducible apply Blk.set | (with_reducible apply Blk.other; · first | (simp; done) | (simp; omega) | omega) | (with_reducible apply Blk.putObj; · first | (simp; done) | (simp; omega) | omega))
        · rfl
      have b1 : Blk ((((((((wr.setCell ⟨w.heap.size, 0, none⟩ (.string kZ)).setCell ⟨w.heap.size, 1, none⟩ (.string ⟨#[]⟩)).setCell ⟨w.heap.size, 2, none⟩ (.string kN)).setCell ⟨w.heap.size, 3, none⟩ (.slice none 0 0)).setCell ⟨w.heap.size, 4, none⟩ (.slice none 0 0)).setCell ⟨w.heap.size, 5, none⟩ (.slice none 0 0)).setCell ⟨w.heap.size, 6, none⟩ (.slice none 0 0)).setCell ⟨w.heap.size + 1, 0, none⟩ (.int .i64 0)) (w.heap.size + 1) #[.int .i64 0] 28 := by
        apply Blk.row
        · repeat (first | with_reducible exact HE.out | (with_reducible apply Blk.newAt; (simp; done)) | with_reducible apply Blk.alloc | with_reducible apply Blk.drew | with_reducible apply Blk.drewN | with_reducible apply Blk.set | (with_reducible apply Blk.other; · first | (simp; done) | (simp; omega) | omega) | (with_reducible apply Blk.putObj; · first | (simp; done) | (simp; omega) | omega))
        · rfl
      refine leaves_cons (f := 21) (args := #[.pointer (some ⟨w.heap.size + 1, 0, none⟩)]) (by simp) (by simp [go_sem]) ?_
      refine (caught_idle ⟨w.heap.size + 1, 0, none⟩ _).mono ?_
      rintro e u' w6 ⟨rfl, rfl, rfl⟩
      have N6q : New w ((((((((wr.setCell ⟨w.heap.size, 0, none⟩ (.string kZ)).setCell ⟨w.heap.size, 1, none⟩ (.string ⟨#[]⟩)).setCell ⟨w.heap.size, 2, none⟩ (.string kN)).setCell ⟨w.heap.size, 3, none⟩ (.slice none 0 0)).setCell ⟨w.heap.size, 4, none⟩ (.slice none 0 0)).setCell ⟨w.heap.size, 5, none⟩ (.slice none 0 0)).setCell ⟨w.heap.size, 6, none⟩ (.slice none 0 0)).setCell ⟨w.heap.size + 1, 0, none⟩ (.int .i64 0)) := by
        repeat (first | with_reducible exact HN.out | with_reducible refine Mod.alloc ?_ _ | with_reducible refine Mod.drew ?_ | with_reducible refine Mod.drewN ?_ _ | (with_reducible refine Mod.set ?_ _ _ (by first | exact .inl rfl | (right; omega) | (right; simp; done) | (right; simp; omega) | (left; omega) | (left; simp; done) | (left; simp; omega))) | (with_reducible refine Mod.putObj ?_ _ _ (by first | exact .inl rfl | (right; omega) | (right; simp; done) | (right; simp; omega) | (left; omega) | (left; simp; done) | (left; simp; omega))))
      have N6 := hid N6q
      refine ⟨_, pm_results _ _ w.heap.size (w.heap.size + 1) _ _ _ _ _ _ _ _ b0 b1 rfl rfl, rfl, N6.out⟩
end Go.Proofs.YtbgmkplpolgebaaGreatDoor

namespace Go.Proofs.YtbgmkplpolgebaaGreatDoor
set_option linter.unusedSimpArgs false
set_option linter.unusedVariables false
open Go.RowKit Go.Shelf

def mag0V : Value := .agg #[.string ⟨#[]⟩, .string ⟨#[]⟩, .string ⟨#[]⟩, .slice none 0 0, .slice none 0 0, .slice none 0 0, .slice none 0 0]
/-- The magnet v tells m; its lists lie in memory from block base on. -/
def MagIs (w : World) (base : Nat) (v : Value) (m : MgV) : Prop := ∃ tr pe ws on, v = .agg #[.string m.old, .string m.new, .string m.name, tr, pe, ws, on] ∧ w.ownsRow base 9 1 tr m.tr.length (m.tr.map Value.string) ∧ w.ownsRow base 64 3 pe m.pe.length (adrRow m.pe) ∧ w.ownsRow base 9 1 ws m.ws.length (m.ws.map Value.string) ∧ w.ownsRow base 66 2 on m.on.length (runRow m.on)
def magQ (base : Nat) (x : Except Int MgV) (e : Ending) (w' : World) : Prop := match x with
  | .error k => e = .returned (.tuple #[mag0V, .int .i64 k])
  | .ok m => ∃ v, e = .returned (.tuple #[v, .int .i64 0]) ∧ MagIs w' base v m
theorem neq_nil (w : World) : (binOp .neq 53 .nilFunc .nilFunc).run Tryz.prog w = .ok (.bool false) w := by
  have h : ∀ d, (Op.equalIn (d + 1) 53 .nilFunc .nilFunc).run Tryz.prog w = .ok true w := fun d => by
    simp [Op.equalIn, run_underlying Tryz.underlying53]
  simp only [binOp]
  simp [Op.equal, Op.maxDepth, h 9999]
theorem plook_none {w : World} {b x y : Nat} (h : FunAt w b (partsF x y)) {K : ByteArray} (h1 : K ≠ pXt) (h2 : K ≠ pDn) (h3 : K ≠ pTr) (h4 : K ≠ pWs) (h5 : K ≠ pPe) (h6 : K ≠ pSo) : (Instr.lookup 54 (.map (some b)) (.string K) false).run Tryz.prog w = .ok .nilFunc w :=
  h.miss1 Tryz.underlying54 Tryz.underlying9 (z := .nilFunc) (by kernel_rfl) (fun v q => by
    simp only [partsF, List.mem_cons, Prod.mk.injEq, List.not_mem_nil, or_false] at q
    rcases q with q | q | q | q | q | q
    · exact h6 q.1
    · exact h5 q.1
    · exact h4 q.1
    · exact h3 q.1
    · exact h2 q.1
    · exact h1 q.1)
theorem rowBase {w : World} {base base' : Nat} {e : TypeId} {size : Nat} {v : Value} {n : Nat} {xs : List Value} (h : w.ownsRow base e size v n xs) (hb : base' ≤ base) : w.ownsRow base' e size v n xs := by
  refine ⟨h.1, ?_⟩
  rcases h.2 with h1 | ⟨g, cap, cur, e, hbg, rest⟩
  · exact .inl h1
  · exact .inr ⟨g, cap, cur, e, Nat.le_trans hb hbg, rest⟩
theorem cutp_any (s : ByteArray) (w : World) : Calls Tryz.prog 22 #[.string s, .string ⟨#[109, 97, 103, 110, 101, 116, 58, 63]⟩] w fun e w' => (∃ R : ByteArray, e = .returned (.tuple #[.string R, .bool (kHead.isPrefixOf s.data.toList)]) ∧ (kHead.isPrefixOf s.data.toList = true → R = mkB (s.data.toList.drop 8))) ∧ w' = w := by
  refine (Tryz.strings_CutPrefix s _ w).mono ?_
  rintro e w' ⟨rfl, rfl⟩
  refine ⟨⟨_, rfl, fun q => ?_⟩, rfl⟩
  have hq : Lib.hasPrefix s.data.toList (⟨#[109, 97, 103, 110, 101, 116, 58, 63]⟩ : ByteArray).data.toList = true := q
  unfold Lib.trimPrefix
  rw [if_pos hq]
  rfl
end Go.Proofs.YtbgmkplpolgebaaGreatDoor
