/-
  (*check).file: whatever the file. Conditions: the check's two sets and the file lie as told; the sum so far is within the bound.
-/
import Derived.Test.YtnhgichiedninaaDoorFn
import Derived.Test.YtnhgichiedninaaDoorFr
import Derived.Test.YtnhgichiedninaaDoorFs
import Derived.Test.YtnhgichiedninaaDoorFq
namespace Go.Proofs.YtnhgichiedninaaDoor
set_option linter.unusedSimpArgs false
set_option linter.unusedVariables false
open Go.RowKit

theorem err_name {M A : List ByteArray} {tot : Int} {i last : Nat} {f : FileV} (h : badName f = true) : errA M A tot i last f = some 5 := by simp [errA, h]
theorem err_range {M A : List ByteArray} {tot : Int} {i last : Nat} {f : FileV} (h : badName f = false) (h2 : badRange f = true) : errA M A tot i last f = some 7 := by simp [errA, h, h2]
theorem err_dup {M A : List ByteArray} {tot : Int} {i last : Nat} {f : FileV} (h : badName f = false) (h2 : badRange f = false) (h3 : dupA M A f = true) : errA M A tot i last f = some 6 := by simp [errA, h, h2, h3]
theorem err_state {M A : List ByteArray} {tot : Int} {i last : Nat} {f : FileV} (h : badName f = false) (h2 : badRange f = false) (h3 : dupA M A f = false) (h4 : badState i last f = true) : errA M A tot i last f = some 9 := by simp [errA, h, h2, h3, h4]
theorem err_size {M A : List ByteArray} {tot : Int} {i last : Nat} {f : FileV} (h : badName f = false) (h2 : badRange f = false) (h3 : dupA M A f = false) (h4 : badState i last f = false) (h5 : 65536 < tot + f.len) : errA M A tot i last f = some 11 := by simp [errA, h, h2, h3, h4, h5]
theorem err_none {M A : List ByteArray} {tot : Int} {i last : Nat} {f : FileV} (h : badName f = false) (h2 : badRange f = false) (h3 : dupA M A f = false) (h4 : badState i last f = false) (h5 : ¬ 65536 < tot + f.len) : errA M A tot i last f = none := by simp [errA, h, h2, h3, h4, h5]

theorem file_any (b bm ba : Nat) (i last : Nat) (tot : Int) (pa : Option Addr) (pc : Nat) (f : FileV) (M A : List ByteArray) (w : World) (h : Ask w b bm ba pa pc f tot M A) (ht : 0 ≤ tot ∧ tot ≤ 65536) :
    Calls Tryd.prog 59 #[.pointer (some ⟨b, 0, none⟩), .int .i64 i, .int .i64 last, fileV pa pc f] w (Fin w b bm ba i f tot M A (errA M A tot i last f)) := by
  by_cases n1 : 1 ≤ f.path.length
  · by_cases n2 : f.path.length ≤ 8
    · cases n3 : f.path.all partOk with
      | false =>
        rw [err_name (by simp only [badName, named, n3]; simp)]
        exact file_name3 b bm ba i last tot pa pc f M A w h n1 n2 n3
      | true =>
        have hn : named f = true := by simp only [named, n3]; simp [n1, n2]
        cases hp : f.pad with
        | true =>
          by_cases h4 : f.path = padPath f.len
          · have b1 : badName f = false := by simp only [badName, hn, hp, decide_eq_true h4]; rfl
            have hd : dupA M A f = false := by simp [dupA, hp]
            by_cases r1 : f.len < 0
            · rw [err_range b1 (by simp [badRange, r1])]
              exact file_range1p b bm ba i last tot pa pc f M A w h n1 n2 n3 hp h4 (decide_eq_true r1)
            · by_cases r2 : 65536 < f.len
              · rw [err_range b1 (by simp [badRange, r2])]
                exact file_range2p b bm ba i last tot pa pc f M A w h n1 n2 n3 hp h4 (decide_eq_false r1) (decide_eq_true r2)
              · by_cases r3 : f.len < 1
                · rw [err_range b1 (by simp [badRange, r3, hp])]
                  exact file_range3 b bm ba i last tot pa pc f M A w h n1 n2 n3 hp h4 (decide_eq_false r1) (decide_eq_false r2) (decide_eq_true r3)
                · have b2 : badRange f = false := by simp only [badRange, decide_eq_false r1, decide_eq_false r2, decide_eq_false r3, hp]; rfl
                  by_cases s1 : i = 0
                  · rw [err_state b1 b2 hd (by simp [badState, s1, hp])]
                    exact file_state1 b bm ba i last tot pa pc f M A w h n1 n2 n3 hp h4 (decide_eq_false r1) (decide_eq_false r2) (decide_eq_false r3) (by simp [s1])
                  · by_cases s2 : i = last
                    · rw [err_state b1 b2 hd (by simp [badState, s2, hp])]
                      exact file_state2 b bm ba i last tot pa pc f M A w h n1 n2 n3 hp h4 (decide_eq_false r1) (decide_eq_false r2) (decide_eq_false r3) (by simpa using s1) (by simp [s2])
                    · have b4 : badState i last f = false := by simp [badState, s1, s2]
                      by_cases z : 65536 < tot + f.len
                      · rw [err_size b1 b2 hd b4 z]
                        exact file_padsize b bm ba i last tot pa pc f M A w h n1 n2 n3 hp h4 (decide_eq_false r1) (decide_eq_false r2) (decide_eq_false r3) (by simpa using s1) (by simp; omega) ht.1 ht.2 (by omega) (by omega) (decide_eq_true z)
                      · rw [err_none b1 b2 hd b4 z]
                        exact file_pad b bm ba i last tot pa pc f M A w h n1 n2 n3 hp h4 (decide_eq_false r1) (decide_eq_false r2) (decide_eq_false r3) (by simpa using s1) (by simp; omega) ht.1 ht.2 (by omega) (by omega) (decide_eq_false z)
          · rw [err_name (by simp only [badName, hp, decide_eq_false h4]; simp)]
            exact file_name4 b bm ba i last tot pa pc f M A w h n1 n2 n3 hp h4
        | false =>
          obtain ⟨p0, hp0⟩ : ∃ p0, f.path.head? = some p0 := by
            cases hq : f.path with
            | nil => simp [hq] at n1
            | cons x r => exact ⟨x, rfl⟩
          have hh : decide (f.path.head? = some dotpad) = (p0.toList == [46, 112, 97, 100]) := by
            rw [lit_eq, hp0, Bool.eq_iff_iff]
            simp [dotpad]
          cases hq : p0.toList == [46, 112, 97, 100] with
          | true =>
            rw [err_name (by simp only [badName, hn, hp, hh, hq]; rfl)]
            exact file_name5 b bm ba i last tot pa pc f M A w h n1 n2 n3 hp ⟨p0, hp0, hq⟩
          | false =>
            have b1 : badName f = false := by simp only [badName, hn, hp, hh, hq]; rfl
            by_cases r1 : f.len < 0
            · rw [err_range b1 (by simp [badRange, r1])]
              exact file_range1n b bm ba i last tot pa pc f M A w h n1 n2 n3 hp ⟨p0, hp0, hq⟩ (decide_eq_true r1)
            · by_cases r2 : 65536 < f.len
              · rw [err_range b1 (by simp [badRange, r2])]
                exact file_range2n b bm ba i last tot pa pc f M A w h n1 n2 n3 hp ⟨p0, hp0, hq⟩ (decide_eq_false r1) (decide_eq_true r2)
              · have b2 : badRange f = false := by simp only [badRange, decide_eq_false r1, decide_eq_false r2, hp]; rfl
                have b4 : badState i last f = false := by simp [badState, hp]
                cases d1 : hasB M (joinB f.path) with
                | true =>
                  rw [err_dup b1 b2 (by simp [dupA, hp, d1])]
                  exact file_dup1 b bm ba i last tot pa pc f M A w h n1 n2 n3 hp ⟨p0, hp0, hq⟩ (decide_eq_false r1) (decide_eq_false r2) d1
                | false =>
                  cases d2 : hasB A (joinB f.path) with
                  | true =>
                    rw [err_dup b1 b2 (by simp [dupA, hp, d2])]
                    exact file_dup2 b bm ba i last tot pa pc f M A w h n1 n2 n3 hp ⟨p0, hp0, hq⟩ (decide_eq_false r1) (decide_eq_false r2) d1 d2
                  | false =>
                    cases d3 : (heads f.path (f.path.length - 1)).any (hasB M) with
                    | true =>
                      rw [err_dup b1 b2 (by simp only [dupA, hp, d1, d2, d3]; rfl)]
                      exact file_dup3 b bm ba i last tot pa pc f M A w h n1 n2 n3 hp ⟨p0, hp0, hq⟩ (decide_eq_false r1) (decide_eq_false r2) d1 d2 d3
                    | false =>
                      have hd : dupA M A f = false := by simp only [dupA, hp, d1, d2, d3]; rfl
                      by_cases z : 65536 < tot + f.len
                      · rw [err_size b1 b2 hd b4 z]
                        exact file_plain b bm ba i last tot pa pc f M A w h n1 n2 n3 hp ⟨p0, hp0, hq⟩ (decide_eq_false r1) (decide_eq_false r2) d1 d2 d3 ht.1 ht.2 (by omega) (by omega) (some 11) (.inl ⟨decide_eq_true z, rfl⟩)
                      · rw [err_none b1 b2 hd b4 z]
                        exact file_plain b bm ba i last tot pa pc f M A w h n1 n2 n3 hp ⟨p0, hp0, hq⟩ (decide_eq_false r1) (decide_eq_false r2) d1 d2 d3 ht.1 ht.2 (by omega) (by omega) none (.inr ⟨decide_eq_false z, rfl⟩)
    · rw [err_name (by simp [badName, named, n2])]
      exact file_name2 b bm ba i last tot pa pc f M A w h (by omega)
  · rw [err_name (by simp only [badName, named, decide_eq_false n1]; simp)]
    exact file_name1 b bm ba i last tot pa pc f M A w h (by omega)
end Go.Proofs.YtnhgichiedninaaDoor
