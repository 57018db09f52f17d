/-
  Several texts in one, in their build order. The walk of Format of package files, for every list. Conditions: the list lies as told; the library's table is as laid. The walks of the reference's Path and Format. Conditions: the lists lie as told; a path's text fits. The walks of web.asked, path and Path. Conditions: the list lies as told, the library's table is laid, lengths are ints.
-/
import Derived.Test.YtnhgichiedninaaGreatDoorM45
import Derived.Test.YtnhgichiedninaaGreatDoorM40
import Derived.Test.YtnhgichiedninaaGreatDoorM20
import Derived.Test.YtnhgichiedninaaGreatDoorM4
import Derived.Deep.RegionHeld3
import Derived.Laws.Concat
import Derived.Test.YtnhgichiedninaaGreatDoorM43
import Derived.Test.YtnhgichiedninaaGreatDoorM28
import Derived.Test.YtnhgichiedninaaGreatDoorM41
namespace Go.Proofs.YtnhgichiedninaaGreatDoor
set_option linter.unusedSimpArgs false
set_option linter.unusedVariables false
open Go.RowKit Go.Shelf

/-- What is told of a valid list's file. -/
def GoodT (f : FileV) : Prop := 0 ≤ f.len ∧ f.len ≤ 65536 ∧ f.path.length ≤ 8 ∧ (joinB f.path).size ≤ 360 ∧ (fmtLine f).length ≤ 361
theorem good_of {l : List FileV} (h : validOf l = true) : ∀ f ∈ l, GoodT f := by
  intro f hf
  obtain ⟨a, b, c, d, e⟩ := valid_file h f hf
  obtain ⟨-, -, q⟩ := bare_ok a b c d e
  have hj : (joinB f.path).size = (joinB f.path).data.toList.length := by rw [Array.length_toList]; rfl
  refine ⟨a, b, d, ?_, ?_⟩
  · rw [hj]
    unfold bareLine at q
    simp only [List.length_append] at q
    omega
  · rw [fmt_bare, List.length_append, List.length_cons]
    simp only [List.length_nil]
    omega
theorem fmt_len : ∀ {l : List FileV}, (∀ f ∈ l, GoodT f) → (l.flatMap fmtLine).length ≤ 361 * l.length
  | [], _ => by simp
  | f :: r, h => by
    have h1 := fmt_len (l := r) (fun g hg => h g (by simp [hg]))
    have h2 := (h f (by simp)).2.2.2.2
    rw [List.flatMap_cons, List.length_append, List.length_cons]
    omega
theorem fmt_next {l : List FileV} {k : Nat} (h : k < l.length) : (l.take (k + 1)).flatMap fmtLine = (l.take k).flatMap fmtLine ++ fmtLine l[k] := by
  rw [List.take_succ_eq_append_getElem h, List.flatMap_append]
  simp
def tailLine (f : FileV) : ByteArray := itoaB f.len ++ ⟨#[32]⟩ ++ joinB f.path ++ ⟨#[10]⟩
theorem tailLine_data (f : FileV) : fmtLine f = (if f.pad then [42] else []) ++ (tailLine f).data.toList := by
  simp [fmtLine, tailLine, itoaB, List.append_assoc]
/-- What the walk of a line needs of the world. -/
structure Fm (w Q : World) (xb b0 : Nat) (pa : Option Addr) (pc : Nat) (f : FileV) (acc : List UInt8) (pv : Bool) : Prop where
  n : New w Q
  x : Blk Q xb #[.slice pa f.path.length pc, .int .i64 f.len, .bool pv] 60
  b : Bld Q b0 acc
theorem Fm.new {w Q Q' : World} {xb b0 : Nat} {pa : Option Addr} {pc : Nat} {f : FileV} {acc : List UInt8} {pv : Bool} (h : Fm w Q xb b0 pa pc f acc pv) (n : New Q Q') : Fm w Q' xb b0 pa pc f acc pv := ⟨h.n.trans n, n.blk h.x, h.b.new n⟩
theorem Fm.drew {w Q : World} {xb b0 : Nat} {pa : Option Addr} {pc : Nat} {f : FileV} {acc : List UInt8} {pv : Bool} (h : Fm w Q xb b0 pa pc f acc pv) : Fm w Q.drew xb b0 pa pc f acc pv := h.new (Mod.drew (Mod.refl _ _))
theorem Fm.wrote {w Q Q' : World} {xb b0 : Nat} {pa : Option Addr} {pc : Nat} {f : FileV} {acc acc' : List UInt8} {pv : Bool} (h : Fm w Q xb b0 pa pc f acc pv) (n : Wrote b0 Q Q') (hx : xb ≠ b0) (hb : w.heap.size ≤ b0) (b : Bld Q' b0 acc') : Fm w Q' xb b0 pa pc f acc' pv :=
  ⟨Wrote.new h.n n hb, n.blk h.x hx (by decide), b⟩
theorem Fm.cells {w Q : World} {xb b0 : Nat} {pa : Option Addr} {pc : Nat} {f : FileV} {acc : List UInt8} {pv : Bool} (h : Fm w Q xb b0 pa pc f acc pv) : Q.cell? ⟨xb, 0, none⟩ = some (.slice pa f.path.length pc) ∧ Q.cell? ⟨xb, 1, none⟩ = some (.int .i64 f.len) := ⟨h.x.cellv 0 rfl, h.x.cellv 1 rfl⟩
end Go.Proofs.YtnhgichiedninaaGreatDoor

namespace Go.Proofs.YtnhgichiedninaaGreatDoor
set_option linter.unusedSimpArgs false
set_option linter.unusedVariables false
open Go.RowKit Go.Shelf

theorem joinTail_snoc (r : List (List UInt8)) (y : List UInt8) : Lib.joinTail [47] (r ++ [y]) = Lib.joinTail [47] r ++ 47 :: y := by simp [Lib.joinTail]
theorem join_next {p : List ByteArray} {k : Nat} (h : k < p.length) : (joinB (p.take (k + 1))).data.toList = (joinB (p.take k)).data.toList ++ (if 0 < k then [47] else []) ++ p[k].data.toList := by
  have e : ∀ q : List ByteArray, (joinB q).data.toList = Lib.join (q.map (·.data.toList)) [47] := fun _ => rfl
  rw [e, e, List.take_succ_eq_append_getElem h, List.map_append]
  cases hq : p.take k with
  | nil =>
    have hk : k = 0 := by
      have : (p.take k).length = 0 := by rw [hq]; rfl
      rw [List.length_take] at this
      omega
    subst hk
    simp [Lib.join]
  | cons x r =>
    have hk : 0 < k := by
      have : (p.take k).length = r.length + 1 := by rw [hq]; rfl
      rw [List.length_take] at this
      omega
    rw [if_pos hk]
    simp only [List.map_cons, List.map_nil, List.cons_append]
    rw [Lib.join_cons, Lib.join_cons, joinTail_snoc]
    simp
theorem join_pre (p : List ByteArray) : ∀ k, (joinB (p.take k)).size ≤ (joinB p).size := by
  have hs : ∀ q : List ByteArray, (joinB q).size = (joinB q).data.toList.length := fun q => by rw [Array.length_toList]; rfl
  have step : ∀ k, (joinB (p.take k)).size ≤ (joinB (p.take (k + 1))).size := by
    intro k
    by_cases h : k < p.length
    · rw [hs, hs, join_next h]
      simp only [List.length_append]
      omega
    · rw [List.take_of_length_le (by omega), List.take_of_length_le (by omega)]
      exact Nat.le_refl _
  have up : ∀ d k, (joinB (p.take k)).size ≤ (joinB (p.take (k + d))).size := by
    intro d
    induction d with
    | zero => intro k; exact Nat.le_refl _
    | succ d ih => intro k; exact Nat.le_trans (ih k) (step (k + d))
  intro k
  by_cases h : k ≤ p.length
  · have := up (p.length - k) k
    rw [show k + (p.length - k) = p.length by omega, List.take_length] at this
    exact this
  · rw [List.take_of_length_le (by omega)]
    exact Nat.le_refl _
theorem join_part {p : List ByteArray} {k : Nat} (h : k < p.length) : (joinB (p.take k)).size + (if 0 < k then 1 else 0) + p[k].size ≤ (joinB p).size := by
  have hs : ∀ q : ByteArray, q.size = q.data.toList.length := fun q => by rw [Array.length_toList]; rfl
  have h1 := join_pre p (k + 1)
  have h2 := congrArg List.length (join_next h)
  rw [List.length_append, List.length_append, ← hs, ← hs, ← hs] at h2
  split
  · next q => rw [if_pos q] at h2; simp at h2; omega
  · next q => rw [if_neg q] at h2; simp at h2; omega
set_option maxRecDepth 100000 in
set_option maxHeartbeats 2000000 in
theorem rPath_any (a : Option Addr) (c : Nat) (p : List ByteArray) (w : World) (h : StrsAt w a c p) (hb : (joinB p).size ≤ 140737488355328) :
    Calls Tryz.prog 93 #[.slice a p.length c] w fun e w' => e = .returned (.string (joinB p)) ∧ w = w' := by
  have hr := h.room; have hc := h.cap
  unfold maxLen at hc
  have HST := hid h
  clear h
  go_enter Tryz.func93, Tryz.ntmps93
  go_wp2
  go_loop [8, 3] (fun x s => ∃ (k : Nat) (o : ByteArray), x = .int .i64 k ∧ s = .string o ∧ k ≤ p.length ∧ o.data.toList = (joinB (p.take k)).data.toList) (fun x _ => p.length - (intOf x).toNat)
  case atStart => exact ⟨0, ⟨#[]⟩, rfl, rfl, by omega, rfl⟩
  case round =>
    obtain ⟨k, o, rfl, rfl, hk, ho⟩ := hrel
    have hos : o.size = (joinB (p.take k)).size := by
      have := congrArg List.length ho
      rw [Array.length_toList, Array.length_toList] at this
      exact this
    have HO := hid ho
    clear ho
    by_cases hlt : k < p.length
    · obtain ⟨b1, o1, rfl, hb1, hc1⟩ := HST.out.get (by omega)
      have g0 := hc1 k hlt
      have HN := hid (join_next hlt)
      have hp := join_part hlt
      obtain ⟨t, ht⟩ : ∃ t, t = p[k] := ⟨_, rfl⟩
      rw [← ht] at g0 HN hp
      rw [← hos] at hp
      have hkI : (k : Int) < (p.length : Int) := by omega
      clear hc1 ht hos
      by_cases h0 : 0 < k
      · rw [if_pos h0] at HN hp
        have h0I : (0 : Int) < (k : Int) := by omega
        have hq : (⟨#[47]⟩ : ByteArray).size = 1 := rfl
        have hadd1 : ∀ w, (Op.stringOp .add o ⟨#[47]⟩).run Tryz.prog w = .ok (.string (o ++ ⟨#[47]⟩)) w := fun w => run_string_add_sum (w := w) _ _ (by omega)
        have hadd2 : ∀ w, (Op.stringOp .add (o ++ ⟨#[47]⟩) t).run Tryz.prog w = .ok (.string (o ++ ⟨#[47]⟩ ++ t)) w := fun w => run_string_add_sum (w := w) _ _ (by rw [ByteArray.size_append]; omega)
        clear hq hp
        go_wp2
        clear hadd1 hadd2
        go_round
        case rel => exact ⟨k + 1, o ++ ⟨#[47]⟩ ++ t, by simp, rfl, by omega, by rw [HN.out, ← HO.out]; simp⟩
        case measure => simp [intOf]; omega
      · rw [if_neg h0] at HN hp
        have hadd2 : ∀ w, (Op.stringOp .add o t).run Tryz.prog w = .ok (.string (o ++ t)) w := fun w => run_string_add_sum (w := w) _ _ (by omega)
        clear hp
        go_wp2
        clear hadd2
        go_round
        case rel => exact ⟨k + 1, o ++ t, by simp, rfl, by omega, by rw [HN.out, ← HO.out]; simp⟩
        case measure => simp [intOf]; omega
    · have hkl : p.take k = p := List.take_of_length_le (by omega)
      rw [hkl] at HO
      clear hos hkl
      go_wp2
      go_ret
      exact ⟨ret_str (bytes_ext HO.out), rfl⟩
/-- What the walk of a line needs of the world, without a builder. -/
structure Fq (w Q : World) (xb : Nat) (pa : Option Addr) (pc : Nat) (f : FileV) (pv : Bool) : Prop where
  n : New w Q
  x : Blk Q xb #[.slice pa f.path.length pc, .int .i64 f.len, .bool pv] 60
theorem Fq.new {w Q Q' : World} {xb : Nat} {pa : Option Addr} {pc : Nat} {f : FileV} {pv : Bool} (h : Fq w Q xb pa pc f pv) (n : New Q Q') : Fq w Q' xb pa pc f pv := ⟨h.n.trans n, n.blk h.x⟩
theorem Fq.drew {w Q : World} {xb : Nat} {pa : Option Addr} {pc : Nat} {f : FileV} {pv : Bool} (h : Fq w Q xb pa pc f pv) : Fq w Q.drew xb pa pc f pv := h.new (Mod.drew (Mod.refl _ _))
theorem Fq.cells {w Q : World} {xb : Nat} {pa : Option Addr} {pc : Nat} {f : FileV} {pv : Bool} (h : Fq w Q xb pa pc f pv) : Q.cell? ⟨xb, 0, none⟩ = some (.slice pa f.path.length pc) ∧ Q.cell? ⟨xb, 1, none⟩ = some (.int .i64 f.len) := ⟨h.x.cellv 0 rfl, h.x.cellv 1 rfl⟩
theorem add_bytes' (a b : ByteArray) : (a ++ b).data.toList = a.data.toList ++ b.data.toList := by simp
end Go.Proofs.YtnhgichiedninaaGreatDoor

namespace Go.Proofs.YtnhgichiedninaaGreatDoor
set_option linter.unusedSimpArgs false
set_option linter.unusedVariables false
open Go.RowKit Go.Shelf

theorem suffix_eq (s : ByteArray) (hs : s.size ≤ 9223372036854775807) {v : Bool} (h : endsSlash s.data.toList = v) (w : World) : Calls Tryz.prog 87 #[.string s, .string ⟨#[47]⟩] w fun e w' => e = .returned (.bool v) ∧ w = w' :=
  (Tryz.strings_HasSuffix s ⟨#[47]⟩ w hs).mono fun e w' ⟨he, hw⟩ => ⟨by rw [he, ← h]; rfl, hw.symm⟩
def askE (url name : ByteArray) (l : List FileV) : Int := if askedB url name l then 0 else 1
theorem size_empty {s : ByteArray} : s.toList.isEmpty = decide (s.size = 0) := by
  rw [ByteArray.toList_eq]
  have : s.data.toList.length = s.size := by rw [Array.length_toList]; rfl
  cases h : s.data.toList with
  | nil => rw [h] at this; simp at this; simp [← this]
  | cons a b =>
    rw [h, List.length_cons] at this
    have hne : ¬ s.size = 0 := by omega
    rw [decide_eq_false hne]
    rfl
set_option maxRecDepth 100000 in
theorem asked_any (url name : ByteArray) (a : Option Addr) (c : Nat) (l : List FileV) (w : World) (hu : url.size ≤ 9223372036854775807) (hn : name.size ≤ 9223372036854775807) (h : FilesAt w a c l) (ht : Tab w) :
    Calls Tryz.prog 57 #[.string url, .string name, .slice a l.length c] w fun e w' => e = .returned (.int .i64 (askE url name l)) ∧ New w w' := by
  cases h1 : validU url with
  | false =>
    have H1 := hid (h1 ▸ wValid_any url w hu : Calls Tryz.prog 33 #[.string url] w fun e w' => e = .returned (.bool false) ∧ w = w')
    have hE : askE url name l = 1 := by simp [askE, askedB, h1]
    rw [hE]
    clear h ht h1 hE
    go_enter Tryz.func57, Tryz.ntmps57
    go_wp2_with fail
    refine H1.out.mono ?_
    rintro e w1 ⟨rfl, rfl⟩
    go_wp2
    go_ret
    exact ⟨rfl, Mod.refl _ _⟩
  | true =>
    have H1 := hid (h1 ▸ wValid_any url w hu : Calls Tryz.prog 33 #[.string url] w fun e w' => e = .returned (.bool true) ∧ w = w')
    by_cases h2 : name.size = 0
    · have hem : name.toList.isEmpty = true := by rw [size_empty]; exact decide_eq_true h2
      have hE : askE url name l = 1 := by simp [askE, askedB, h1, h2]
      rw [hE]
      clear h ht h1 h2 hE
      go_enter Tryz.func57, Tryz.ntmps57
      go_wp2_with fail
      refine H1.out.mono ?_
      rintro e w1 ⟨rfl, rfl⟩
      go_wp2
      go_ret
      exact ⟨rfl, Mod.refl _ _⟩
    · have hem : name.toList.isEmpty = false := by rw [size_empty]; exact decide_eq_false h2
      by_cases h3 : 100 < name.size
      · have hI : decide ((100 : Int) < (name.size : Int)) = true := decide_eq_true (by omega)
        have hE : askE url name l = 1 := by simp [askE, askedB, show ¬ name.size ≤ 100 by omega]
        rw [hE]
        clear h ht h1 h2 hE
        go_enter Tryz.func57, Tryz.ntmps57
        go_wp2_with fail
        refine H1.out.mono ?_
        rintro e w1 ⟨rfl, rfl⟩
        go_wp2
        go_ret
        exact ⟨rfl, Mod.refl _ _⟩
      · have hI : decide ((100 : Int) < (name.size : Int)) = false := decide_eq_false (by omega)
        obtain ⟨E, hE⟩ : ∃ E, E = askE url name l := ⟨_, rfl⟩
        have hE2 : E = if validOf l then 0 else 1 := by rw [hE]; simp [askE, askedB, h1, h2, show name.size ≤ 100 by omega]
        rw [← hE]
        have HE := hid hE2
        have HV := hid (valid_any a c l w h ht)
        obtain ⟨V, hV⟩ : ∃ V, V = validOf l := ⟨_, rfl⟩
        rw [← hV] at HE HV
        clear h ht h1 h2 hE hE2 hV
        go_enter Tryz.func57, Tryz.ntmps57
        go_wp2_with fail
        refine H1.out.mono ?_
        rintro e w1 ⟨rfl, rfl⟩
        go_wp2_with fail
        refine HV.out.mono ?_
        rintro e w1 ⟨rfl, n1⟩
        have N1 := hid n1
        clear n1
        cases V with
        | true =>
          go_wp2
          go_ret
          exact ⟨ret_int HE.out.symm, N1.out⟩
        | false =>
          go_wp2
          go_ret
          exact ⟨ret_int HE.out.symm, N1.out⟩
theorem trim_slash (u : List UInt8) : Lib.trimSuffix u [47] ++ [47] = (if endsSlash u then u else u ++ [47]) := by
  unfold Lib.trimSuffix endsSlash
  cases h : Lib.hasSuffix u [47] with
  | false => simp
  | true =>
    simp only [if_true]
    have h2 : [47] <:+ u := by unfold Lib.hasSuffix at h; exact List.isSuffixOf_iff_suffix.1 h
    obtain ⟨t, rfl⟩ := h2
    simp
theorem bytes_ext' {a : ByteArray} {l : List UInt8} (h : a.data.toList = l) : a = ⟨l.toArray⟩ := by
  apply ByteArray.ext
  apply Array.toList_inj.1
  rw [h]
theorem trim_size (u : ByteArray) : (⟨(Lib.trimSuffix u.data.toList [47]).toArray⟩ : ByteArray).size ≤ u.size := by
  rw [size_list]
  have : u.data.toList.length = u.size := by rw [Array.length_toList]; rfl
  unfold Lib.trimSuffix
  split
  · rw [List.length_take]; omega
  · omega
theorem trim_eq (s : ByteArray) (hs : s.size ≤ 9223372036854775807) (w : World) : Calls Tryz.prog 88 #[.string s, .string ⟨#[47]⟩] w fun e w' => e = .returned (.string ⟨(Lib.trimSuffix s.data.toList [47]).toArray⟩) ∧ w = w' :=
  (Tryz.strings_TrimSuffix s ⟨#[47]⟩ w hs).mono fun e w' ⟨he, hw⟩ => ⟨he, hw.symm⟩
set_option maxRecDepth 100000 in
set_option maxHeartbeats 2000000 in
theorem wpath_any (url name : ByteArray) (a : Option Addr) (c : Nat) (l : List FileV) (k : Nat) (w : World) (hu : url.size ≤ 200) (hn : name.size ≤ 100) (h : FilesAt w a c l) (hv : validOf l = true) (hk : k < l.length) :
    Calls Tryz.prog 60 #[.string url, .string name, .slice a l.length c, .int .i64 k] w fun e w' => e = .returned (.string ⟨(urlOf url name l k).toArray⟩) ∧ New w w' := by
  obtain ⟨X, hX⟩ : ∃ X, X = urlOf url name l k := ⟨_, rfl⟩
  rw [← hX]
  have HTS := hid (fun w => trim_eq url (by omega) w)
  have HEN := hid (fun W => escaped_any name W (by omega))
  have htz := trim_size url
  obtain ⟨T, hT⟩ : ∃ T : ByteArray, T = ⟨(Lib.trimSuffix url.data.toList [47]).toArray⟩ := ⟨_, rfl⟩
  obtain ⟨E, hE⟩ : ∃ E : ByteArray, E = ⟨(escOf name.data.toList).toArray⟩ := ⟨_, rfl⟩
  have hez : E.size ≤ 300 := by rw [hE, size_list]; have := escOf_len name.data.toList; have : name.data.toList.length = name.size := (by rw [Array.length_toList]; rfl); omega
  rw [← hT] at HTS htz
  rw [← hE] at HEN
  have hTl : T.data.toList ++ [47] = (if endsSlash url.data.toList then url.data.toList else url.data.toList ++ [47]) := by rw [hT]; exact trim_slash _
  have hEl : E.data.toList = escOf name.data.toList := by rw [hE]
  have HTL := hid hTl; have HEL := hid hEl
  have hr := h.room; have hc := h.cap
  unfold maxLen at hc
  clear hTl hEl hT hE
  by_cases h1 : l.length = 1
  · have h1I : ((l.length : Int) == 1) = true := by rw [beq_iff_eq]; omega
    cases hs : endsSlash url.data.toList with
    | false =>
      have HS := hid (fun w => suffix_eq url (by omega) hs w)
      have HX : Hid (X = url.data.toList) := hid (by rw [hX, urlOf, if_pos ⟨h1, hs⟩])
      clear hX h hs
      go_enter Tryz.func60, Tryz.ntmps60
      go_wp2_with fail
      refine (HS.out _).mono ?_
      rintro e w1 ⟨rfl, rfl⟩
      go_wp2
      go_ret
      exact ⟨ret_str (bytes_ext' (by rw [HX.out])), Mod.refl _ _⟩
    | true =>
      have HS := hid (fun w => suffix_eq url (by omega) hs w)
      have HX : Hid (X = (T.data.toList ++ [47]) ++ E.data.toList) := hid (by rw [hX, urlOf, if_neg (by rw [hs]; simp), if_pos h1, HTL.out, HEL.out, List.append_nil])
      clear hX h hs
      go_enter Tryz.func60, Tryz.ntmps60
      go_wp2_with fail
      refine (HS.out _).mono ?_
      rintro e w1 ⟨rfl, rfl⟩
      go_wp2_with fail
      refine (HTS.out _).mono ?_
      rintro e w1 ⟨rfl, rfl⟩
      go_wp2_with fail
      refine (HEN.out _).mono ?_
      rintro e w2 ⟨rfl, n2⟩
      have N2 := hid n2
      clear n2
      go_wp2
      go_ret
      exact ⟨ret_str (bytes_ext' (by rw [HX.out]; simp)), N2.out⟩
  · have h1I : ((l.length : Int) == 1) = false := by rw [beq_eq_false_iff_ne]; omega
    have hgf := good_of hv l[k] (List.getElem_mem hk)
    obtain ⟨g1, g2, g3, g4, g5⟩ := hgf
    obtain ⟨b, o, rfl, hb, hc2⟩ := h.get (by omega)
    obtain ⟨pa, pc, d0, d1, d2, hst, -⟩ := hc2 k hk
    have HX : Hid (X = (T.data.toList ++ [47]) ++ E.data.toList ++ ([47] ++ escOf (joinB l[k].path).data.toList)) := hid (by rw [hX, urlOf, if_neg (by simp [h1]), if_neg h1, HTL.out, HEL.out, List.getElem?_eq_getElem hk]; simp)
    obtain ⟨f, hf⟩ : ∃ f, f = l[k] := ⟨_, rfl⟩
    rw [← hf] at d0 d1 d2 hst g1 g2 g3 g4 g5 HX
    have HPT := hid (fun W (n : New w W) => path_any pa pc f.path W (hst.new n) (by omega) (by omega))
    have HEP := hid (fun W => escaped_any (joinB f.path) W (by omega))
    obtain ⟨G, hG⟩ : ∃ G : ByteArray, G = ⟨(escOf (joinB f.path).data.toList).toArray⟩ := ⟨_, rfl⟩
    have hgz : G.size ≤ 1080 := by rw [hG, size_list]; have := escOf_len (joinB f.path).data.toList; have : (joinB f.path).data.toList.length = (joinB f.path).size := (by rw [Array.length_toList]; rfl); omega
    have HG : Hid (G.data.toList = escOf (joinB f.path).data.toList) := hid (by rw [hG])
    rw [← hG] at HEP
    obtain ⟨J, hJ⟩ : ∃ J, J = joinB f.path := ⟨_, rfl⟩
    rw [← hJ] at HPT HEP HX HG g4
    have hkI : (k : Int) < (l.length : Int) := by omega
    have HC0 := hid d0
    clear hX h g1 g2 g3 g5 hf hst hG hJ hc2 d1 d2 h1
    go_enter Tryz.func60, Tryz.ntmps60
    go_wp2_with fail
    refine (HTS.out _).mono ?_
    rintro e w1 ⟨rfl, rfl⟩
    go_wp2_with fail
    refine (HEN.out _).mono ?_
    rintro e w2 ⟨rfl, n2⟩
    have N2 := hid n2
    clear n2
    have d0 := N2.out.cellv HC0.out
    have hbw : b < w2.heap.size := by have := N2.out.size; omega
    go_wp2_with fail
    refine (HPT.out _ N2.out).mono ?_
    rintro e w3 ⟨rfl, n3⟩
    have N3 := hid (N2.out.trans n3)
    clear n3 d0
    go_wp2_with fail
    refine (HEP.out _).mono ?_
    rintro e w4 ⟨rfl, n4⟩
    have N4 := hid (N3.out.trans n4)
    clear n4
    go_wp2
    go_ret
    exact ⟨ret_str (bytes_ext' (by rw [HX.out, ← HG.out]; simp)), N4.out⟩
theorem asked_facts {url name : ByteArray} {l : List FileV} (h : askedB url name l = true) : validU url = true ∧ url.size ≤ 200 ∧ name.size ≠ 0 ∧ name.size ≤ 100 ∧ validOf l = true := by
  unfold askedB at h
  simp only [Bool.and_eq_true, Bool.not_eq_true', decide_eq_false_iff_not, decide_eq_true_eq] at h
  obtain ⟨⟨⟨h1, h2⟩, h3⟩, h4⟩ := h
  have h5 := h1
  unfold validU at h5
  simp only [Bool.and_eq_true, decide_eq_true_eq] at h5
  exact ⟨h1, h5.1, h2, h3, h4⟩
/-- What Path answers, case by case. -/
theorem url_cases (url name : ByteArray) (l : List FileV) (file : Int) :
    (askedB url name l = false ∧ urlErr url name l file = 1 ∧ urlRes url name l file = []) ∨
    (askedB url name l = true ∧ (file < 0 ∨ (l.length : Int) ≤ file) ∧ urlErr url name l file = 7 ∧ urlRes url name l file = []) ∨
    (askedB url name l = true ∧ ∃ (k : Nat) (hk : k < l.length), file = k ∧ ((l[k].pad = true ∧ urlErr url name l file = 10 ∧ urlRes url name l file = []) ∨ (l[k].pad = false ∧ urlErr url name l file = 0 ∧ urlRes url name l file = urlOf url name l k))) := by
  cases ha : askedB url name l with
  | false =>
    have h : urlErr url name l file = 1 := by simp [urlErr, ha]
    exact .inl ⟨rfl, h, by rw [urlRes, h, if_neg (by decide)]⟩
  | true =>
    by_cases hr : file < 0 ∨ (l.length : Int) ≤ file
    · have h : urlErr url name l file = 7 := by simp [urlErr, ha, hr]
      exact .inr (.inl ⟨rfl, hr, h, by rw [urlRes, h, if_neg (by decide)]⟩)
    · obtain ⟨k, rfl⟩ := Int.eq_ofNat_of_zero_le (show 0 ≤ file by omega)
      have hk : k < l.length := by omega
      have h : urlErr url name l k = if l[k].pad then 10 else 0 := by
        unfold urlErr
        rw [if_pos ha, if_neg hr, Int.toNat_natCast, List.getElem?_eq_getElem hk]
      refine .inr (.inr ⟨rfl, k, hk, rfl, ?_⟩)
      cases hp : l[k].pad with
      | true =>
        rw [hp, if_pos rfl] at h
        exact .inl ⟨rfl, h, by rw [urlRes, h, if_neg (by decide)]⟩
      | false =>
        rw [hp, if_neg (by decide)] at h
        exact .inr ⟨rfl, h, by rw [urlRes, if_pos h, Int.toNat_natCast]⟩
theorem ret_url {X : List UInt8} {E : Int} {o : ByteArray} {e : Int} (h1 : X = o.data.toList) (h2 : E = e) : Ending.returned (.tuple #[.string o, .int .i64 e]) = .returned (.tuple #[.string ⟨X.toArray⟩, .int .i64 E]) := by
  subst h1 h2
  rfl
set_option maxRecDepth 100000 in
set_option maxHeartbeats 2000000 in
theorem wPath_any (url name : ByteArray) (a : Option Addr) (c : Nat) (l : List FileV) (file : Int) (w : World) (hu : url.size ≤ 9223372036854775807) (hn : name.size ≤ 9223372036854775807) (h : FilesAt w a c l) (ht : Tab w) :
    Calls Tryz.prog 29 #[.string url, .string name, .slice a l.length c, .int .i64 file] w fun e w' => e = .returned (.tuple #[.string ⟨(urlRes url name l file).toArray⟩, .int .i64 (urlErr url name l file)]) ∧ New w w' := by
  have hcs := url_cases url name l file
  have HA := hid (asked_any url name a c l w hu hn h ht)
  obtain ⟨R, hR⟩ : ∃ R, R = urlRes url name l file := ⟨_, rfl⟩
  obtain ⟨E, hE⟩ : ∃ E, E = urlErr url name l file := ⟨_, rfl⟩
  rw [← hR, ← hE] at hcs
  rw [← hR, ← hE]
  have hr := h.room; have hc := h.cap
  unfold maxLen at hc
  rcases hcs with ⟨ha, q1, q2⟩ | ⟨ha, hf, q1, q2⟩ | ⟨ha, k, hk, rfl, hk2⟩
  · rw [askE, ha, if_neg (by decide)] at HA
    have Q1 := hid q1; have Q2 := hid q2
    clear hR hE ha q1 q2 h ht
    go_enter Tryz.func29, Tryz.ntmps29
    go_wp2_with fail
    refine HA.out.mono ?_
    rintro e w1 ⟨rfl, n1⟩
    have N1 := hid n1
    clear n1
    go_wp2
    go_ret2
    exact ⟨ret_url Q2.out Q1.out, N1.out⟩
  · rw [askE, ha, if_pos rfl] at HA
    have Q1 := hid q1; have Q2 := hid q2
    clear hR hE ha q1 q2 h ht
    go_enter Tryz.func29, Tryz.ntmps29
    go_wp2_with fail
    refine HA.out.mono ?_
    rintro e w1 ⟨rfl, n1⟩
    have N1 := hid n1
    clear n1
    rcases hf with hf | hf
    · go_wp2
      go_ret2
      exact ⟨ret_url Q2.out Q1.out, N1.out⟩
    · by_cases hf0 : file < 0
      · go_wp2
        go_ret2
        exact ⟨ret_url Q2.out Q1.out, N1.out⟩
      · have hf1 : 0 ≤ file := by omega
        go_wp2
        go_ret2
        exact ⟨ret_url Q2.out Q1.out, N1.out⟩
  · obtain ⟨f1, f2, f3, f4, f5⟩ := asked_facts ha
    rw [askE, ha, if_pos rfl] at HA
    have HP := hid (fun W (n : New w W) => wpath_any url name a c l k W f2 f4 (h.new n) f5 hk)
    obtain ⟨b, o, rfl, hb, hc2⟩ := h.get (by omega)
    obtain ⟨pa, pc, d0, d1, d2, hst, -⟩ := hc2 k hk
    obtain ⟨f, hf⟩ : ∃ f, f = l[k] := ⟨_, rfl⟩
    rw [← hf] at d0 d1 d2 hst hk2
    have D2 := hid d2
    have hkI : (k : Int) < (l.length : Int) := by omega
    clear ha f1 f2 f3 f4 f5 h ht hc2 hst d0 d1 d2 hf
    rcases hk2 with ⟨hp, q1, q2⟩ | ⟨hp, q1, q2⟩
    · have Q1 := hid q1; have Q2 := hid q2
      rw [hp] at D2
      clear hR hE q1 q2 hp
      go_enter Tryz.func29, Tryz.ntmps29
      go_wp2_with fail
      refine HA.out.mono ?_
      rintro e w1 ⟨rfl, n1⟩
      have N1 := hid n1
      have d2 := n1.cellv D2.out
      have hbw : b < w1.heap.size := by have := n1.size; omega
      clear n1
      go_wp2
      go_ret2
      exact ⟨ret_url Q2.out Q1.out, N1.out⟩
    · rw [← q2] at HP
      have Q1 := hid q1
      rw [hp] at D2
      clear hR hE q1 q2 hp
      go_enter Tryz.func29, Tryz.ntmps29
      go_wp2_with fail
      refine HA.out.mono ?_
      rintro e w1 ⟨rfl, n1⟩
      have N1 := hid n1
      have d2 := n1.cellv D2.out
      have hbw : b < w1.heap.size := by have := n1.size; omega
      clear n1
      go_wp2_with fail
      refine (HP.out _ N1.out).mono ?_
      rintro e w2 ⟨rfl, n2⟩
      have N2 := hid (N1.out.trans n2)
      clear n2 d2
      go_wp2
      go_ret2
      exact ⟨ret_url rfl Q1.out, N2.out⟩
end Go.Proofs.YtnhgichiedninaaGreatDoor
