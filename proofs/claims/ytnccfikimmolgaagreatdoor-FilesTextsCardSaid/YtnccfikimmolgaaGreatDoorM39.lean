/-
  Several texts in one, in their build order. A text read line by line from its beginning: what is read, what is left, and what Parse answers. Plain Lean, no program. No condition. The walk of the reference's Parse. Conditions: the text is small.
-/
import Derived.Test.YtnccfikimmolgaaGreatDoorM22
import Derived.Test.YtnccfikimmolgaaGreatDoorM38
import Derived.Test.YtnccfikimmolgaaGreatDoorM24
namespace Go.Proofs.YtnccfikimmolgaaGreatDoor
set_option linter.unusedSimpArgs false
set_option linter.unusedVariables false

/-- The lines Ls are read, each a line; r is left. -/
structure LeftT (s : List UInt8) (Ls : List (List UInt8)) (r : List UInt8) : Prop where
  lines : linesOf s = Ls ++ linesOf r
  tail : tailOf s = tailOf r
  text : s = (Ls.flatMap fun L => L ++ [10]) ++ r
  ok : ∀ L ∈ Ls, (lineP L).isSome = true
theorem LeftT.start (s : List UInt8) : LeftT s [] s := ⟨rfl, rfl, rfl, by simp⟩
theorem LeftT.next {s a b : List UInt8} {Ls : List (List UInt8)} (h : LeftT s Ls (a ++ 10 :: b)) (ha : (10 : UInt8) ∉ a) (ho : (lineP a).isSome = true) : LeftT s (Ls ++ [a]) b := by
  obtain ⟨h1, h2⟩ := lines_app (b := b) ha
  refine ⟨by rw [h.lines, h1, List.append_assoc]; rfl, by rw [h.tail, h2], by rw [h.text, List.flatMap_append]; simp, fun L hL => ?_⟩
  rcases List.mem_append.1 hL with q | q
  · exact h.ok L q
  · rw [List.mem_singleton.1 q]; exact ho
theorem badAt_app : ∀ (A B : List (List UInt8)) (i : Nat), (∀ L ∈ A, (lineP L).isSome = true) → badAt (A ++ B) i = badAt B (i + A.length)
  | [], B, i, _ => rfl
  | L :: A, B, i, h => by
    rw [List.cons_append, badAt, h L (by simp), if_pos rfl, badAt_app A B (i + 1) (fun x hx => h x (by simp [hx])), List.length_cons, show i + 1 + A.length = i + (A.length + 1) by omega]
theorem LeftT.bad {s a b : List UInt8} {Ls : List (List UInt8)} (h : LeftT s Ls (a ++ 10 :: b)) (ha : (10 : UInt8) ∉ a) (ho : lineP a = none) : parseL s = [] ∧ parseLine s = Ls.length ∧ parseErr s = 2 := by
  obtain ⟨h1, h2⟩ := lines_app (b := b) ha
  have hb : badAt (linesOf s) 0 = some Ls.length := by
    rw [h.lines, h1, badAt_app _ _ _ h.ok, badAt, ho, Nat.zero_add]
    rfl
  unfold parseL parseLine parseErr
  rw [hb]
  exact ⟨rfl, rfl, rfl⟩
theorem LeftT.opened {s r : List UInt8} {Ls : List (List UInt8)} (h : LeftT s Ls r) (hr : (10 : UInt8) ∉ r) (hne : r ≠ [] ∨ Ls = []) : parseL s = [] ∧ parseLine s = Ls.length ∧ parseErr s = 2 := by
  obtain ⟨h1, h2⟩ := lines_free hr
  have hl : linesOf s = Ls := by rw [h.lines, h1, List.append_nil]
  have hb : badAt (linesOf s) 0 = none := by
    have := badAt_app Ls [] 0 h.ok
    rw [List.append_nil] at this
    rw [hl, this]
    rfl
  have ht : tailOf s = r := by rw [h.tail, h2]
  unfold parseL parseLine parseErr
  rw [hb, hl, ht]
  by_cases e : r = []
  · have hL : Ls = [] := hne.resolve_left (fun q => q e)
    subst hL e
    have hv : validOf (filesP []) = false := by decide
    simp only [if_pos, hv]
    exact ⟨rfl, rfl, rfl⟩
  · simp only [if_neg e]
    exact ⟨trivial, trivial, trivial⟩
theorem LeftT.done {s : List UInt8} {Ls : List (List UInt8)} (h : LeftT s Ls []) (hne : Ls ≠ []) : decide (fmtOf (filesR Ls) = s) = validOf (filesP Ls) ∧ (validOf (filesP Ls) = true → parseL s = filesR Ls ∧ parseLine s = 0 ∧ parseErr s = 0) ∧ (validOf (filesP Ls) = false → parseL s = [] ∧ parseLine s = Ls.length ∧ parseErr s = 2) := by
  obtain ⟨f1, f2⟩ := format_test hne h.ok
  have e : s = Ls.flatMap fun L => L ++ [10] := by rw [h.text, List.append_nil]
  rw [← e] at f1
  have hl : linesOf s = Ls := by rw [h.lines]; simp [linesOf, pieces]
  have ht : tailOf s = [] := by rw [h.tail]; simp [tailOf, pieces]
  have hb : badAt (linesOf s) 0 = none := by
    have := badAt_app Ls [] 0 h.ok
    rw [List.append_nil] at this
    rw [hl, this]
    rfl
  refine ⟨f1, fun q => ?_, fun q => ?_⟩
  · rw [f2 q]
    unfold parseL parseLine parseErr
    rw [hb, hl, ht]
    simp only [if_true, q]
    exact ⟨trivial, trivial, trivial⟩
  · unfold parseL parseLine parseErr
    rw [hb, hl, ht]
    simp only [if_true, q]
    exact ⟨rfl, rfl, rfl⟩
theorem filesR_next (Ls : List (List UInt8)) {a : List UInt8} {y : Bool × List UInt8 × List UInt8} (h : lineP a = some y) : filesR (Ls ++ [a]) = filesR Ls ++ [fileR y] := by
  unfold filesR
  rw [List.filterMap_append]
  simp [h]
end Go.Proofs.YtnccfikimmolgaaGreatDoor

namespace Go.Proofs.YtnccfikimmolgaaGreatDoor
set_option linter.unusedSimpArgs false
set_option linter.unusedVariables false
open Go.RowKit Go.Shelf

/-- What Parse answers of a text. -/
def ParseOut (w w' : World) (s : List UInt8) (e : Ending) : Prop := ∃ a c, e = .returned (.tuple #[.slice a (parseL s).length c, .int .i64 (parseLine s), .int .i64 (parseErr s)]) ∧ FilesAt w' a c (parseL s) ∧ New w w'
theorem ParseOut.bad {w w' : World} {s : List UInt8} {n : Int} (h : parseL s = [] ∧ parseLine s = n ∧ parseErr s = 2) (hn : New w w') : ParseOut w w' s (.returned (.tuple #[.slice none 0 0, .int .i64 n, .int .i64 2])) := by
  obtain ⟨h1, h2, h3⟩ := h
  refine ⟨none, 0, by rw [h1, h2, h3]; rfl, ?_, hn⟩
  rw [h1]
  exact ⟨by simp, by decide, .inl rfl⟩
theorem ParseOut.good {w w' : World} {s : List UInt8} {F : List FileV} {a : Option Addr} {c : Nat} (h : parseL s = F ∧ parseLine s = 0 ∧ parseErr s = 0) (hf : FilesAt w' a c F) (hn : New w w') : ParseOut w w' s (.returned (.tuple #[.slice a F.length c, .int .i64 0, .int .i64 0])) := by
  obtain ⟨rfl, h2, h3⟩ := h
  exact ⟨a, c, by rw [h2, h3], hf, hn⟩
theorem lenR_in (ds : List UInt8) : -9223372036854775808 ≤ lenR ds ∧ lenR ds ≤ 9223372036854775807 := by
  unfold lenR
  split <;> omega
def strSize : Value → Nat
  | .string s => s.size
  | _ => 0
set_option maxRecDepth 100000 in
set_option maxHeartbeats 4000000 in
theorem rParse_any (t : ByteArray) (w : World) (hs : t.size ≤ 65536) :
    Calls Tryz.prog 21 #[.string t] w fun e w' => ParseOut w w' t.data.toList e := by
  have htl : ¬ (65536 : Int) < (t.size : Int) := by omega
  obtain ⟨s, hS⟩ : ∃ s, s = t.data.toList := ⟨_, rfl⟩
  rw [← hS]
  have HS := hid hS
  clear hS
  obtain ⟨i0, hi, hz0, hz1, hz2⟩ := info_parts info_file
  go_enter Tryz.func21, Tryz.ntmps21
  go_wp2
  go_loopw [2, 5, 6] (fun lv nv rv wr => ∃ (R : ByteArray) (Ls : List (List UInt8)) (E : List EntV) (N : Nat) (o : Value), o = lv ∧ rv = .string R ∧ nv = .int .i64 N ∧ N = Ls.length ∧ LeftT s Ls R.data.toList ∧ R.size + N ≤ t.size ∧ E.length = N ∧ E.map (·.f) = filesR Ls ∧ Own wr w.heap.size o E ∧ New w wr) (fun _ _ rv _ => strSize rv)
  case atStart => exact ⟨t, [], [], 0, _, rfl, rfl, rfl, rfl, by rw [← HS.out]; exact LeftT.start s, by omega, rfl, rfl, Own.nil _ _, Mod.refl _ _⟩
  case round =>
    obtain ⟨R, Ls, E, N, o, rfl, rfl, rfl, hN, hleft, hsz, hel, hE, hO, hn⟩ := hrel
    have HN := hid hn; have HO := hid hO; have HE := hid hE; have HLF := hid hleft; have HNL0 := hid hN; have HEL := hid hel
    have hRl : R.data.toList.length = R.size := by rw [Array.length_toList]; rfl
    clear hn hO hE hleft hN hel
    rcases Nat.eq_zero_or_pos R.size with h0 | hpos
    · have hR0 : R.data.toList = [] := List.eq_nil_of_length_eq_zero (by omega)
      have hem : R.toList.isEmpty = true := by rw [ByteArray.toList_eq, hR0]; rfl
      have HR0 := hid hR0
      have h0I : (R.size : Int) = 0 := by omega
      clear hR0
      rcases Nat.eq_zero_or_pos N with hN0 | hNp
      · subst hN0
        have HBAD : Hid (parseL s = [] ∧ parseLine s = ((0 : Nat) : Int) ∧ parseErr s = 2) := hid (by
          have hL : Ls = [] := List.eq_nil_of_length_eq_zero HNL0.out.symm
          have := HLF.out.opened (by rw [HR0.out]; simp) (.inr hL)
          rw [hL] at this
          exact this)
        have hn0I : (((0 : Nat) : Int) == 0) = true := rfl
        go_wp2
        refine wp_loop_rounds 1 ?_
        rw [rounds_succ]
        go_wp2
        go_ret3
        exact ParseOut.bad HBAD.out HN.out
      · have hn0I : ((N : Int) == 0) = false := by rw [beq_eq_false_iff_ne]; omega
        have HL0 := hid (show LeftT s Ls [] by rw [← HR0.out]; exact HLF.out)
        have HDN := hid (HL0.out.done (fun q => by have := HNL0.out; rw [q] at this; simp at this; omega))
        obtain ⟨a', c', rfl, hfa⟩ := HO.out.files
        rw [HE.out] at hfa
        have hel2 : E.length = (filesR Ls).length := by rw [← HE.out, List.length_map]
        rw [hel2]
        obtain ⟨F, hF⟩ : ∃ F, F = filesR Ls := ⟨_, rfl⟩
        rw [← hF] at hfa HDN ⊢
        have HFA := hid hfa
        clear hfa hF hel2
        obtain ⟨D1, D2, D3⟩ := HDN.out
        cases hv : validOf (filesP Ls) with
        | true =>
          rw [hv, decide_eq_true_eq, HS.out] at D1
          obtain ⟨p1, p2, p3⟩ := D2 hv
          have HFM := hid (rFormat_any a' c' F wr HFA.out)
          rw [show (⟨(fmtOf F).toArray⟩ : ByteArray) = t by rw [D1]] at HFM
          have HP := hid (And.intro p1 (And.intro p2 p3))
          clear D1 D2 D3 hv HDN p1 p2 p3
          go_wp2_with fail
          refine HFM.out.mono ?_
          rintro e w2 ⟨rfl, n2⟩
          have N2 := hid (HN.out.trans n2)
          have F2 := hid (HFA.out.new n2)
          clear n2
          go_wp2
          go_ret3
          exact ParseOut.good HP.out F2.out N2.out
        | false =>
          rw [hv, decide_eq_false_iff_not, HS.out] at D1
          have hp := D3 hv
          rw [← HNL0.out] at hp
          have HBAD := hid hp
          have HFM := hid (rFormat_any a' c' F wr HFA.out)
          obtain ⟨X, hX⟩ : ∃ X : ByteArray, X = ⟨(fmtOf F).toArray⟩ := ⟨_, rfl⟩
          rw [← hX] at HFM
          have hne : (X.toList == t.toList) = false := by
            rw [beq_eq_false_iff_ne, ByteArray.toList_eq, ByteArray.toList_eq, hX]
            exact D1
          clear D1 D2 D3 hv HDN hp hX
          go_wp2_with fail
          refine HFM.out.mono ?_
          rintro e w2 ⟨rfl, n2⟩
          have N2 := hid (HN.out.trans n2)
          clear n2
          go_wp2
          go_ret3
          exact ParseOut.bad HBAD.out N2.out
    · have hem : R.toList.isEmpty = false := (canon_cases R hpos).1
      rcases byte_form 10 R.data.toList with hfree | ⟨a, b, hab, hafree⟩
      · have HBAD := hid (HLF.out.opened hfree (.inl (fun q => by rw [q] at hRl; simp at hRl; omega)))
        rw [← HNL0.out] at HBAD
        have HNL : Hid (∀ (k : Nat) (hk : k < R.size), k < R.size → R[k].toNat ≠ 10) := hid (fun k hk _ q => hfree (by
          have := byte_at' R hk
          have e : R[k] = 10 := UInt8.toNat_inj.1 q
          rw [e] at this
          exact List.mem_of_getElem? this))
        clear hfree
        go_wp2
        go_loop [7] (fun x => ∃ (k : Nat), x = .int .i64 k ∧ k ≤ R.size) (fun x => R.size - (intOf x).toNat)
        case atStart => exact ⟨0, rfl, by omega⟩
        case round =>
          obtain ⟨k, rfl, hk⟩ := hrel
          by_cases hlt : k < R.size
          · have hlt2 : k < R.size := by omega
            have hltI : (k : Int) < (R.size : Int) := by omega
            have hnl := HNL.out k hlt2 hlt
            have hnlI : ((R[k].toNat : Int) != 10) = true := by rw [bne_iff_ne]; omega
            clear hnl
            go_wp2
            exact ⟨⟨k + 1, by simp, by omega⟩, by simp [intOf]; omega⟩
          · obtain rfl : k = R.size := by omega
            go_wp2
            go_ret3
            exact ParseOut.bad HBAD.out HN.out
      · have hal : a.length < R.size := by
          have := congrArg List.length hab
          rw [List.length_append, List.length_cons] at this
          omega
        have HNL : Hid (∀ (k : Nat) (hk : k < R.size), k < a.length → R[k].toNat ≠ 10) := hid (fun k hk hka q => hafree (by
          have := byte_at' R hk
          rw [hab, List.getElem?_append_left hka, UInt8.toNat_inj.1 (show R[k].toNat = (10 : UInt8).toNat from q)] at this
          exact List.mem_of_getElem? this))
        have h10 : R[a.length] = 10 := by
          have := byte_at' R hal
          rw [hab, List.getElem?_append_right (Nat.le_refl _)] at this
          simpa using this.symm
        have h10I : ((R[a.length].toNat : Int) != 10) = false := by rw [h10]; rfl
        have HTK : Hid ((R.extract 0 a.length).data.toList = a) := hid (by rw [ext_head, hab]; simp)
        have HDR : Hid ((R.extract (a.length + 1) R.size).data.toList = b) := hid (by rw [ext_tail, hab]; simp)
        rw [hab] at HLF
        have HAF := hid hafree
        have hxs : (R.extract 0 a.length).size ≤ 70000 := by rw [ByteArray.size_extract]; omega
        have hone := one_any (R.extract 0 a.length) wr hxs
        rw [HTK.out] at hone
        have HONE := hid hone
        clear hab hafree h10 hone hxs
        obtain ⟨m, hm⟩ : ∃ m, a.length = m := ⟨_, rfl⟩
        have hal2 : m < R.size := by omega
        have H10 : Hid (((R[m].toNat : Int) != 10) = false) := by subst hm; exact hid h10I
        rw [hm] at HNL HTK HDR HONE
        clear hm h10I
        go_wp2
        go_loop [7] (fun x => ∃ (k : Nat), x = .int .i64 k ∧ k ≤ m) (fun x => R.size - (intOf x).toNat)
        case atStart => exact ⟨0, rfl, by omega⟩
        case round =>
          obtain ⟨k, rfl, hk⟩ := hrel
          by_cases hlt : k < m
          · have hlt2 : k < R.size := by omega
            have hltI : (k : Int) < (R.size : Int) := by omega
            have hnl := HNL.out k hlt2 hlt
            have hnlI : ((R[k].toNat : Int) != 10) = true := by rw [bne_iff_ne]; omega
            clear hnl
            go_wp2
            exact ⟨⟨k + 1, by simp, by omega⟩, by simp [intOf]; omega⟩
          · obtain rfl : k = m := by omega
            have hk10 := H10.out
            have hkI : ((k : Int) == (R.size : Int)) = false := by rw [beq_eq_false_iff_ne]; omega
            go_wp2_with fail
            refine HONE.out.mono ?_
            intro e w2 hout
            obtain ⟨pa, n, pc, ln, pd, ok, rfl, hok, hy, n2⟩ := hout
            have N2 := hid (HN.out.trans n2)
            have HO2 := hid (HO.out.new n2)
            have z2 := n2.size
            clear hk10 hkI n2 HONE
            cases hlp : lineP a with
            | none =>
              obtain rfl : ok = false := by rw [hok, hlp]; rfl
              have HBAD := hid (HLF.out.bad HAF.out hlp)
              rw [← HNL0.out] at HBAD
              clear hok hy hlp
              go_wp2
              go_ret3
              exact ParseOut.bad HBAD.out (N2.out.alloc _)
            | some y =>
              obtain rfl : ok = true := by rw [hok, hlp]; rfl
              obtain ⟨rfl, rfl, rfl, hst, hfa⟩ := hy y hlp
              have HST := hid hst; have HFA := hid hfa; have HLP := hid hlp
              clear hok hy hlp hst hfa
              obtain ⟨f, hf⟩ : ∃ f, f = fileR y := ⟨_, rfl⟩
              have hfb : -9223372036854775808 ≤ f.len ∧ f.len ≤ 9223372036854775807 := by rw [hf]; exact lenR_in y.2.1
              rw [← hf] at HST ⊢
              have HF := hid hf
              have hNb : N ≤ 65536 := by omega
              clear hf
              go_wp2_with (at_builtin; refine wpList_append_own_at _ rfl _ _ 22 rfl w.heap.size 51 i0 _ 3 40 Tryz.underlying22 hi hz0 hz1 hz2 rfl (by decide) o N (rowOf E) rfl ?owA ⟨w2.heap.size + 1, 0, none⟩ 1 1 [.slice pa f.path.length pc, .int .i64 f.len, .bool f.pad] rfl rfl ?hnA ?h1A ?h63A ?hbyA ?hbaA ?_)
              case owA => exact own_len (HO2.out.new (((Mod.refl _ _).alloc _).alloc _)) HEL.out
              case hnA => have := three_new (w2.alloc (.cells #[.slice pa f.path.length pc, .int .i64 f.len, .bool f.pad] 51)) (.slice pa f.path.length pc) (.int .i64 f.len) (.bool f.pad) 51; simpa using this
              case h1A => first | exact ⟨rfl, rfl, rfl⟩ | (intro u hu; simp at hu; rcases hu with rfl | rfl | rfl <;> rfl)
              case h63A => unfold maxLen; omega
              case hbyA => omega
              case hbaA => have := N2.out.size; simp; omega
              intro o4 w4 r4 g4 _ l4
              have hfar : f.path = [] ∨ ∃ a, pa = some a ∧ some a.block ≠ o.ownBlock ∧ a.block < ((w2.alloc (.cells #[.slice pa f.path.length pc, .int .i64 f.len, .bool f.pad] 51)).alloc (.cells #[.slice pa f.path.length pc, .int .i64 f.len, .bool f.pad] 51)).heap.size := by
                rcases HST.out.at' with q | ⟨b, o', q, -, -⟩
                · exact .inl q
                · have hfx : wr.heap.size ≤ b ∧ b < w2.heap.size := HFA.out _ q
                  refine .inr ⟨_, q, fun q2 => ?_, ?_⟩
                  · have hfy : b < wr.heap.size := HO.out.lt b q2.symm
                    omega
                  · show b < _
                    simp
                    omega
              have HO4 := hid (own_next (HO2.out.new (((Mod.refl _ _).alloc _).alloc _)) HEL.out ⟨pa, pc, f⟩ rfl r4 g4 (by simpa using l4) (HST.out.new (((Mod.refl _ _).alloc _).alloc _)) hfb hfar)
              have HN4 : Hid (New w w4) := hid (New.grown ((N2.out.alloc _).alloc _) g4 (fun j hj => (HO2.out.row.lt j hj).1))
              clear r4 g4 l4 hfar
              go_wp2
              refine ⟨⟨R.extract (k + 1) R.size, Ls ++ [a], _, N + 1, _, rfl, rfl, by simp, by simp [HNL0.out], ?_, ?_, by simp [HEL.out], ?_, HO4.out, HN4.out⟩, ?_⟩
              · rw [HDR.out]; exact HLF.out.next HAF.out (by rw [HLP.out]; rfl)
              · rw [ByteArray.size_extract]; omega
              · rw [filesR_next Ls HLP.out, List.map_append, HE.out, HF.out]; rfl
              · simp [strSize]; omega
theorem rParse_long (t : ByteArray) (w : World) (hs : 65536 < t.size) :
    Calls Tryz.prog 21 #[.string t] w fun e w' => e = .returned (.tuple #[.slice none 0 0, .int .i64 0, .int .i64 3]) ∧ New w w' := by
  have htl : (65536 : Int) < (t.size : Int) := by omega
  go_enter Tryz.func21, Tryz.ntmps21
  go_wp2
  go_ret3
  exact ⟨rfl, Mod.refl _ _⟩
end Go.Proofs.YtnccfikimmolgaaGreatDoor
