/-
  Several texts in one, in their build order. The walk of the reference's Path. Conditions: the list lies as told, the library's table is laid, lengths are ints. The reference's Fetches (package coveyref30): what it refuses; its own list of fetches; its Spans' row. Conditions: the list lies as told; the library's table is laid.
-/
import Derived.Test.YtnhgichiedninaaGreatDoorM38
import Derived.Test.YtnhgichiedninaaGreatDoorM42
import Derived.Test.YtnhgichiedninaaGreatDoorM39
import Derived.Test.YtnhgichiedninaaGreatDoorM30
namespace Go.Proofs.YtnhgichiedninaaGreatDoor
set_option linter.unusedSimpArgs false
set_option linter.unusedVariables false
open Go.RowKit Go.Shelf

theorem asked_no {url name : ByteArray} {l : List FileV} (h : askedB url name l = false) : validU url = false ∨ (validU url = true ∧ name.size = 0) ∨ (validU url = true ∧ name.size ≠ 0 ∧ 100 < name.size) ∨ (validU url = true ∧ name.size ≠ 0 ∧ name.size ≤ 100 ∧ validOf l = false) := by
  cases h1 : validU url with
  | false => exact .inl rfl
  | true =>
    by_cases h2 : name.size = 0
    · exact .inr (.inl ⟨rfl, h2⟩)
    · by_cases h3 : name.size ≤ 100
      · refine .inr (.inr (.inr ⟨rfl, h2, h3, ?_⟩))
        unfold askedB at h
        simpa [h1, h2, h3] using h
      · exact .inr (.inr (.inl ⟨rfl, h2, by omega⟩))
set_option maxRecDepth 100000 in
set_option maxHeartbeats 4000000 in
theorem rwPath_pad (url name : ByteArray) (a : Option Addr) (c : Nat) (l : List FileV) (k : Nat) (R : List UInt8) (E : Int) (w : World) (hu : url.size ≤ 9223372036854775807) (hn : name.size ≤ 9223372036854775807) (h : FilesAt w a c l) (ht : TzAt w) (ha : askedB url name l = true) (hk : k < l.length) (hp : l[k].pad = true) (q1 : E = 10) (q2 : R = []) :
    Calls Tryz.prog 63 #[.string url, .string name, .slice a l.length c, .int .i64 k] w fun e w' => e = .returned (.tuple #[.string ⟨R.toArray⟩, .int .i64 E]) ∧ New w w' := by
  have hr := h.room; have hc := h.cap
  unfold maxLen at hc
  have hval := wrValid_any url w hu
  have hrv := rvalid_any a c l w h
  have hempty := size_empty (s := name)
  obtain ⟨f1, f2, f3, f4, f5⟩ := asked_facts ha
  rw [f1] at hval
  rw [decide_eq_false f3] at hempty
  have hgd := good_of f5 l[k] (List.getElem_mem hk)
  rw [f5] at hrv
  have hI : decide ((100 : Int) < (name.size : Int)) = false := decide_eq_false (by omega)
  have H1 := hid hval; have H2 := hid hrv
  obtain ⟨b, o, rfl, hb, hc2⟩ := h.get (by omega)
  obtain ⟨pa, pc, d0, d1, d2, hst, -⟩ := hc2 k hk
  have HTZ := hid (fun W (n : New w W) => ht.new n)
  have huo : urlOf url name l k = (if l.length = 1 ∧ endsSlash url.data.toList = false then url.data.toList else (if endsSlash url.data.toList then url.data.toList else url.data.toList ++ [47]) ++ escOf name.data.toList ++ (if l.length = 1 then [] else [47] ++ escOf (joinB l[k].path).data.toList)) := by
    rw [urlOf, List.getElem?_eq_getElem hk]
    rfl
  obtain ⟨f, hf⟩ : ∃ f, f = l[k] := ⟨_, rfl⟩
  rw [← hf] at d0 d1 d2 hst hp hgd huo
  have D2 := hid d2; have D0 := hid d0; have HST := hid hst
  obtain ⟨g1, g2, g3, g4, g5⟩ := hgd
  have hkI : (k : Int) < (l.length : Int) := by omega
  clear ha f1 f3 f5 h ht hc2 hst d0 d1 d2 hf hval hrv g1 g2 g5
  have Q1 := hid q1; have Q2 := hid q2
  rw [hp] at D2
  clear q1 q2 hp huo
  go_enter Tryz.func63, Tryz.ntmps63
  go_wp2_with fail
  refine H1.out.mono ?_
  rintro e w1 ⟨rfl, rfl⟩
  go_wp2_with fail
  refine H2.out.mono ?_
  rintro e w2 ⟨rfl, n2⟩
  have N2 := hid n2
  have d2 := n2.cellv D2.out
  have hbw : b < w2.heap.size := by have := n2.size; omega
  clear n2
  go_wp2
  go_ret2
  exact ⟨ret_url Q2.out Q1.out, N2.out⟩
set_option maxRecDepth 100000 in
set_option maxHeartbeats 4000000 in
theorem rwPath_ok (url name : ByteArray) (a : Option Addr) (c : Nat) (l : List FileV) (k : Nat) (R : List UInt8) (E : Int) (w : World) (hu : url.size ≤ 9223372036854775807) (hn : name.size ≤ 9223372036854775807) (h : FilesAt w a c l) (ht : TzAt w) (ha : askedB url name l = true) (hk : k < l.length) (hp : l[k].pad = false) (q1 : E = 0) (q2 : R = urlOf url name l k) :
    Calls Tryz.prog 63 #[.string url, .string name, .slice a l.length c, .int .i64 k] w fun e w' => e = .returned (.tuple #[.string ⟨R.toArray⟩, .int .i64 E]) ∧ New w w' := by
  have hr := h.room; have hc := h.cap
  unfold maxLen at hc
  have hval := wrValid_any url w hu
  have hrv := rvalid_any a c l w h
  have hempty := size_empty (s := name)
  obtain ⟨f1, f2, f3, f4, f5⟩ := asked_facts ha
  rw [f1] at hval
  rw [decide_eq_false f3] at hempty
  have hgd := good_of f5 l[k] (List.getElem_mem hk)
  rw [f5] at hrv
  have hI : decide ((100 : Int) < (name.size : Int)) = false := decide_eq_false (by omega)
  have H1 := hid hval; have H2 := hid hrv
  obtain ⟨b, o, rfl, hb, hc2⟩ := h.get (by omega)
  obtain ⟨pa, pc, d0, d1, d2, hst, -⟩ := hc2 k hk
  have HTZ := hid (fun W (n : New w W) => ht.new n)
  have huo : urlOf url name l k = (if l.length = 1 ∧ endsSlash url.data.toList = false then url.data.toList else (if endsSlash url.data.toList then url.data.toList else url.data.toList ++ [47]) ++ escOf name.data.toList ++ (if l.length = 1 then [] else [47] ++ escOf (joinB l[k].path).data.toList)) := by
    rw [urlOf, List.getElem?_eq_getElem hk]
    rfl
  obtain ⟨f, hf⟩ : ∃ f, f = l[k] := ⟨_, rfl⟩
  rw [← hf] at d0 d1 d2 hst hp hgd huo
  have D2 := hid d2; have D0 := hid d0; have HST := hid hst
  obtain ⟨g1, g2, g3, g4, g5⟩ := hgd
  have hkI : (k : Int) < (l.length : Int) := by omega
  clear ha f1 f3 f5 h ht hc2 hst d0 d1 d2 hf hval hrv g1 g2 g5
  rw [huo] at q2
  rw [hp] at D2
  have Q1 := hid q1
  have HEN := hid (fun W (n : New w W) => rescaped_any name W (by omega) (HTZ.out W n))
  have HEP := hid (fun W (n : New w W) => rescaped_any (joinB f.path) W (by omega) (HTZ.out W n))
  have HPT := hid (fun W (n : New w W) => rPath_any pa pc f.path W (HST.out.new n) (by omega))
  obtain ⟨EN, hEN⟩ : ∃ x : ByteArray, x = ⟨(escOf name.data.toList).toArray⟩ := ⟨_, rfl⟩
  have hez : EN.size ≤ 300 := by rw [hEN, size_list]; have := escOf_len name.data.toList; have : name.data.toList.length = name.size := (by rw [Array.length_toList]; rfl); omega
  rw [← hEN] at HEN
  have hENd : escOf name.data.toList = EN.data.toList := by rw [hEN]
  rw [hENd] at q2
  obtain ⟨J, hJ⟩ : ∃ J, J = joinB f.path := ⟨_, rfl⟩
  rw [← hJ] at HPT HEP q2 g4
  obtain ⟨G, hG⟩ : ∃ G : ByteArray, G = ⟨(escOf J.data.toList).toArray⟩ := ⟨_, rfl⟩
  have hgz : G.size ≤ 1080 := by rw [hG, size_list]; have := escOf_len J.data.toList; have : J.data.toList.length = J.size := (by rw [Array.length_toList]; rfl); omega
  rw [← hG] at HEP
  have hGd : escOf J.data.toList = G.data.toList := by rw [hG]
  rw [hGd] at q2
  clear q1 hp huo hEN hENd hJ hG hGd
  cases hsl : endsSlash url.data.toList with
  | true =>
    have HS := hid (fun w => suffix_eq url (by omega) hsl w)
    rw [hsl] at q2
    by_cases h1 : l.length = 1
    · have h1I : ((l.length : Int) == 1) = true := by rw [beq_iff_eq]; omega
      have h1J : decide ((1 : Int) < (l.length : Int)) = false := decide_eq_false (by omega)
      have HX : Hid (R = url.data.toList ++ EN.data.toList) := hid (by rw [q2, if_neg (by simp), if_pos rfl, if_pos h1, List.append_nil])
      clear q2 hsl h1
      go_enter Tryz.func63, Tryz.ntmps63
      go_wp2_with fail
      refine H1.out.mono ?_
      rintro e w1 ⟨rfl, rfl⟩
      go_wp2_with fail
      refine H2.out.mono ?_
      rintro e w2 ⟨rfl, n2⟩
      have N2 := hid n2
      have d2 := n2.cellv D2.out
      have hbw : b < w2.heap.size := by have := n2.size; omega
      clear n2
      go_wp2_with fail
      refine (HS.out _).mono ?_
      rintro e w3 ⟨rfl, rfl⟩
      go_wp2_with fail
      refine (HS.out _).mono ?_
      rintro e w3 ⟨rfl, rfl⟩
      go_wp2_with fail
      refine (HEN.out _ N2.out).mono ?_
      rintro e w4 ⟨rfl, n4⟩
      have N4 := hid (N2.out.trans n4)
      clear n4
      go_wp2
      go_ret2
      exact ⟨ret_url (by rw [HX.out]; simp) Q1.out, N4.out⟩
    · have h1I : ((l.length : Int) == 1) = false := by rw [beq_eq_false_iff_ne]; omega
      have h1J : decide ((1 : Int) < (l.length : Int)) = true := decide_eq_true (by omega)
      have HX : Hid (R = url.data.toList ++ EN.data.toList ++ ([47] ++ G.data.toList)) := hid (by rw [q2, if_neg (by simp), if_pos rfl, if_neg h1])
      clear q2 hsl h1
      go_enter Tryz.func63, Tryz.ntmps63
      go_wp2_with fail
      refine H1.out.mono ?_
      rintro e w1 ⟨rfl, rfl⟩
      go_wp2_with fail
      refine H2.out.mono ?_
      rintro e w2 ⟨rfl, n2⟩
      have N2 := hid n2
      have d2 := n2.cellv D2.out
      have hbw : b < w2.heap.size := by have := n2.size; omega
      clear n2
      go_wp2_with fail
      refine (HS.out _).mono ?_
      rintro e w3 ⟨rfl, rfl⟩
      go_wp2_with fail
      refine (HEN.out _ N2.out).mono ?_
      rintro e w4 ⟨rfl, n4⟩
      have N4 := hid (N2.out.trans n4)
      clear n4
      have d0 := N4.out.cellv D0.out
      have hbw4 : b < w4.heap.size := by have := N4.out.size; omega
      go_wp2_with fail
      refine (HPT.out _ N4.out).mono ?_
      rintro e w5 ⟨rfl, rfl⟩
      go_wp2_with fail
      refine (HEP.out _ N4.out).mono ?_
      rintro e w6 ⟨rfl, n6⟩
      have N6 := hid (N4.out.trans n6)
      clear n6
      go_wp2
      go_ret2
      exact ⟨ret_url (by rw [HX.out]; simp) Q1.out, N6.out⟩
  | false =>
    have HS := hid (fun w => suffix_eq url (by omega) hsl w)
    rw [hsl] at q2
    by_cases h1 : l.length = 1
    · have h1I : ((l.length : Int) == 1) = true := by rw [beq_iff_eq]; omega
      have HX : Hid (R = url.data.toList) := hid (by rw [q2, if_pos ⟨h1, rfl⟩])
      clear q2 hsl h1
      go_enter Tryz.func63, Tryz.ntmps63
      go_wp2_with fail
      refine H1.out.mono ?_
      rintro e w1 ⟨rfl, rfl⟩
      go_wp2_with fail
      refine H2.out.mono ?_
      rintro e w2 ⟨rfl, n2⟩
      have N2 := hid n2
      have d2 := n2.cellv D2.out
      have hbw : b < w2.heap.size := by have := n2.size; omega
      clear n2
      go_wp2_with fail
      refine (HS.out _).mono ?_
      rintro e w3 ⟨rfl, rfl⟩
      go_wp2
      go_ret2
      exact ⟨ret_url HX.out Q1.out, N2.out⟩
    · have h1I : ((l.length : Int) == 1) = false := by rw [beq_eq_false_iff_ne]; omega
      have h1J : decide ((1 : Int) < (l.length : Int)) = true := decide_eq_true (by omega)
      have HX : Hid (R = url.data.toList ++ [47] ++ EN.data.toList ++ ([47] ++ G.data.toList)) := hid (by rw [q2, if_neg (by simp [h1]), if_neg (by decide), if_neg h1])
      clear q2 hsl h1
      go_enter Tryz.func63, Tryz.ntmps63
      go_wp2_with fail
      refine H1.out.mono ?_
      rintro e w1 ⟨rfl, rfl⟩
      go_wp2_with fail
      refine H2.out.mono ?_
      rintro e w2 ⟨rfl, n2⟩
      have N2 := hid n2
      have d2 := n2.cellv D2.out
      have hbw : b < w2.heap.size := by have := n2.size; omega
      clear n2
      go_wp2_with fail
      refine (HS.out _).mono ?_
      rintro e w3 ⟨rfl, rfl⟩
      go_wp2_with fail
      refine (HEN.out _ N2.out).mono ?_
      rintro e w4 ⟨rfl, n4⟩
      have N4 := hid (N2.out.trans n4)
      clear n4
      have d0 := N4.out.cellv D0.out
      have hbw4 : b < w4.heap.size := by have := N4.out.size; omega
      go_wp2_with fail
      refine (HPT.out _ N4.out).mono ?_
      rintro e w5 ⟨rfl, rfl⟩
      go_wp2_with fail
      refine (HEP.out _ N4.out).mono ?_
      rintro e w6 ⟨rfl, n6⟩
      have N6 := hid (N4.out.trans n6)
      clear n6
      go_wp2
      go_ret2
      exact ⟨ret_url (by rw [HX.out]; simp) Q1.out, N6.out⟩
set_option maxRecDepth 100000 in
set_option maxHeartbeats 4000000 in
theorem rwPath_any (url name : ByteArray) (a : Option Addr) (c : Nat) (l : List FileV) (file : Int) (w : World) (hu : url.size ≤ 9223372036854775807) (hn : name.size ≤ 9223372036854775807) (h : FilesAt w a c l) (ht : TzAt w) :
    Calls Tryz.prog 63 #[.string url, .string name, .slice a l.length c, .int .i64 file] w fun e w' => e = .returned (.tuple #[.string ⟨(urlRes url name l file).toArray⟩, .int .i64 (urlErr url name l file)]) ∧ New w w' := by
  have hcs := url_cases url name l file
  obtain ⟨R, hR⟩ : ∃ R, R = urlRes url name l file := ⟨_, rfl⟩
  obtain ⟨E, hE⟩ : ∃ E, E = urlErr url name l file := ⟨_, rfl⟩
  rw [← hR, ← hE] at hcs
  rw [← hR, ← hE]
  have hr := h.room; have hc := h.cap
  unfold maxLen at hc
  have hval := wrValid_any url w hu
  have hrv := rvalid_any a c l w h
  have hempty := size_empty (s := name)
  clear hR hE
  rcases hcs with ⟨ha, q1, q2⟩ | ⟨ha, hf, q1, q2⟩ | ⟨ha, k, hk, rfl, hk2⟩
  · have Q1 := hid q1; have Q2 := hid q2
    rcases asked_no ha with g1 | ⟨g1, g2⟩ | ⟨g1, g2, g3⟩ | ⟨g1, g2, g3, g4⟩
    · rw [g1] at hval
      have H1 := hid hval
      clear ha q1 q2 h ht hval hrv g1 hempty
      go_enter Tryz.func63, Tryz.ntmps63
      go_wp2_with fail
      refine H1.out.mono ?_
      rintro e w1 ⟨rfl, rfl⟩
      go_wp2
      go_ret2
      exact ⟨ret_url Q2.out Q1.out, Mod.refl _ _⟩
    · rw [g1] at hval
      rw [decide_eq_true g2] at hempty
      have H1 := hid hval
      clear ha q1 q2 h ht hval hrv g1 g2
      go_enter Tryz.func63, Tryz.ntmps63
      go_wp2_with fail
      refine H1.out.mono ?_
      rintro e w1 ⟨rfl, rfl⟩
      go_wp2
      go_ret2
      exact ⟨ret_url Q2.out Q1.out, Mod.refl _ _⟩
    · rw [g1] at hval
      rw [decide_eq_false g2] at hempty
      have hI : decide ((100 : Int) < (name.size : Int)) = true := decide_eq_true (by omega)
      have H1 := hid hval
      clear ha q1 q2 h ht hval hrv g1 g2
      go_enter Tryz.func63, Tryz.ntmps63
      go_wp2_with fail
      refine H1.out.mono ?_
      rintro e w1 ⟨rfl, rfl⟩
      go_wp2
      go_ret2
      exact ⟨ret_url Q2.out Q1.out, Mod.refl _ _⟩
    · rw [g1] at hval
      rw [decide_eq_false g2] at hempty
      rw [g4] at hrv
      have hI : decide ((100 : Int) < (name.size : Int)) = false := decide_eq_false (by omega)
      have H1 := hid hval; have H2 := hid hrv
      clear ha q1 q2 h ht hval hrv g1 g2 g4
      go_enter Tryz.func63, Tryz.ntmps63
      go_wp2_with fail
      refine H1.out.mono ?_
      rintro e w1 ⟨rfl, rfl⟩
      go_wp2_with fail
      refine H2.out.mono ?_
      rintro e w2 ⟨rfl, n2⟩
      have N2 := hid n2
      clear n2
      go_wp2
      go_ret2
      exact ⟨ret_url Q2.out Q1.out, N2.out⟩
  · obtain ⟨f1, f2, f3, f4, f5⟩ := asked_facts ha
    have Q1 := hid q1; have Q2 := hid q2
    rw [f1] at hval
    rw [decide_eq_false f3] at hempty
    rw [f5] at hrv
    have hI : decide ((100 : Int) < (name.size : Int)) = false := decide_eq_false (by omega)
    have H1 := hid hval; have H2 := hid hrv
    clear ha q1 q2 h ht hval hrv f1 f3 f5
    go_enter Tryz.func63, Tryz.ntmps63
    go_wp2_with fail
    refine H1.out.mono ?_
    rintro e w1 ⟨rfl, rfl⟩
    go_wp2_with fail
    refine H2.out.mono ?_
    rintro e w2 ⟨rfl, n2⟩
    have N2 := hid n2
    clear n2
    by_cases hf0 : file < 0
    · go_wp2
      go_ret2
      exact ⟨ret_url Q2.out Q1.out, N2.out⟩
    · have hf1 : (l.length : Int) ≤ file := by omega
      have hf2 : 0 ≤ file := by omega
      clear hf
      go_wp2
      go_ret2
      exact ⟨ret_url Q2.out Q1.out, N2.out⟩
  · rcases hk2 with ⟨hp, q1, q2⟩ | ⟨hp, q1, q2⟩
    · exact rwPath_pad url name a c l k R E w hu hn h ht ha hk hp q1 q2
    · exact rwPath_ok url name a c l k R E w hu hn h ht ha hk hp q1 q2
end Go.Proofs.YtnhgichiedninaaGreatDoor

namespace Go.Proofs.YtnhgichiedninaaGreatDoor
set_option linter.unusedSimpArgs false
set_option linter.unusedVariables false
open Go.RowKit

theorem fetRow_len : ∀ S : List FetV, (fetRow S).length = S.length * 5
  | [] => rfl
  | s :: S => by
    have e : fetRow (s :: S) = fetCells s ++ fetRow S := rfl
    rw [e, List.length_append, fetRow_len S, List.length_cons]
    simp [fetCells]
    omega
theorem OwnFt.blk {w : World} {base g : Nat} {v : Value} {S : List FetV} (h : OwnFt w base v S) (hv : v.ownBlock = some g) : base ≤ g ∧ g < w.heap.size := World.ownsRow.lt h g hv
/-- The last fetch's count is written anew. -/
theorem OwnFt.last {w : World} {base g cap : Nat} {T : List FetV} {p : FetV} (h : OwnFt w base (.slice (some ⟨g, 0, none⟩) (T.length + 1) cap) (T ++ [p])) (x : Int) : OwnFt (w.setCell ⟨g, T.length * 5 + 3, none⟩ (.int .i64 x)) base (.slice (some ⟨g, 0, none⟩) (T.length + 1) cap) (T ++ [{ p with cnt := x }]) := by
  unfold OwnFt at *
  have hl : (T ++ [p]).length = T.length + 1 := by simp
  have hl2 : (T ++ [({ p with cnt := x } : FetV)]).length = T.length + 1 := by simp
  rw [hl] at h
  rw [hl2]
  obtain ⟨h1, -⟩ := World.ownsRow.stored h (T.length * 5 + 3) (.int .i64 x)
  have es : fetRow (T ++ [{ p with cnt := x }]) = (fetRow (T ++ [p])).set (T.length * 5 + 3) (.int .i64 x) := by
    rw [fetRow_app, fetRow_app, fetRow_one, fetRow_one, List.set_append_right _ _ (by rw [fetRow_len]; omega), fetRow_len, show T.length * 5 + 3 - T.length * 5 = 3 by omega]
    rfl
  rw [es]
  exact h1
theorem OwnFt.lastCells {w : World} {base : Nat} {v : Value} {T : List FetV} {p : FetV} (h : OwnFt w base v (T ++ [p])) : ∃ g cap, v = .slice (some ⟨g, 0, none⟩) (T.length + 1) cap ∧ base ≤ g ∧ g < w.heap.size ∧ T.length + 1 ≤ cap ∧ cap ≤ maxLen ∧ w.cell? ⟨g, T.length * 5 + 1, none⟩ = some (.int .i64 p.file) ∧ w.cell? ⟨g, T.length * 5 + 2, none⟩ = some (.int .i64 p.frm) ∧ w.cell? ⟨g, T.length * 5 + 3, none⟩ = some (.int .i64 p.cnt) ∧ (∀ i, w.frozen? ⟨g, i, none⟩ = false) := by
  have h0 := h
  have hl : (T ++ [p]).length = T.length + 1 := by simp
  unfold OwnFt at h
  rw [hl] at h
  rcases h.2 with ⟨-, q⟩ | ⟨g, cap, cur, rfl, hbg, hg, hnc, hcm, hcs, htake⟩
  · simp at q
  · have hc : ∀ j u, j < 5 → (fetCells p)[j]? = some u → w.cell? ⟨g, T.length * 5 + j, none⟩ = some u := by
      intro j u hj hu
      have h1 := World.ownsRow.cells (g := g) h rfl (T.length * 5 + j) u (by
        rw [fetRow_app, fetRow_one, List.getElem?_append_right (by rw [fetRow_len]; omega), fetRow_len, show T.length * 5 + j - T.length * 5 = j by omega]
        exact hu)
      rw [add_none] at h1
      simpa using h1
    exact ⟨g, cap, rfl, hbg, (Array.getElem?_eq_some_iff.1 hg).1, hnc, hcm, hc 1 _ (by omega) rfl, hc 2 _ (by omega) rfl, hc 3 _ (by omega) rfl, fun i => by simp [World.frozen?, hg]⟩
theorem ret_fet2 {v : Value} {E k : Int} {w : World} {base : Nat} {X : List FetV} {P : Prop} (h : E = k) (hX : X = []) (hv : v = .slice none 0 0) (hP : P) : ∃ u, Ending.returned (.tuple #[v, .int .i64 k]) = .returned (.tuple #[u, .int .i64 E]) ∧ OwnFt w base u X ∧ P := by
  subst h hX hv
  exact ⟨_, rfl, World.ownsRow_nil _ _ _ _, hP⟩
set_option maxRecDepth 100000 in
set_option maxHeartbeats 2000000 in
/-- The reference's Spans, of a piece that is one: a list of the call's own. -/
theorem rSpansOwn_any (a : Option Addr) (c : Nat) (l : List FileV) (piece : Int) (j : Nat) (new : Bool) (w : World) (h : FilesAt w a c l) (h0 : -9223372036854775808 ≤ piece) (h1 : piece ≤ 9223372036854775807) (hb : wayErr l piece = 0) (hi : (j : Int) < piecesOf l piece new) :
    Calls Tryz.prog 27 #[.slice a l.length c, .int .i64 piece, .bool new, .int .i64 j] w fun e w' => ∃ v, e = .returned (.tuple #[v, .int .i64 0]) ∧ OwnS w' w.heap.size v (spansOf l piece new j) ∧ New w w' := by
  have HC := hid (rcheck_any a c l piece w h h0 h1)
  obtain ⟨hv, hp⟩ := way_ok hb
  obtain ⟨v1, v2, v3, v4⟩ := valid_facts hv
  obtain ⟨p1, p2⟩ := piece_range hp
  have HCU := hid (fun W (n : New w W) => cut_any a c l piece new W (h.new n) v2 v3 v4 p1 p2)
  have hln := cut_length new hb
  have hle := pieces_le (new := new) hb
  have hat := cut_at (new := new) hb (i := j) hi
  rw [hb] at HC
  have hj : j < (cutOf l piece new).length := by omega
  rw [List.getElem?_eq_getElem hj] at hat
  obtain ⟨R, hR⟩ : ∃ R, R = cutOf l piece new := ⟨_, rfl⟩
  have hle2 : (R.length : Int) ≤ 70000 := by rw [hR]; omega
  rw [← hR] at HCU
  simp only [← hR] at hat hj
  have hS : R[j] = spansOf l piece new j := Option.some.inj hat
  obtain ⟨S, hSS⟩ : ∃ S, S = spansOf l piece new j := ⟨_, rfl⟩
  rw [← hSS] at hS ⊢
  have HRS := hid hS
  clear h hv hp hb v1 v2 v3 v4 hln hR hle hat hi hS hSS
  have hjI : ((j : Int)) < (R.length : Int) := by omega
  go_enter Tryz.func27, Tryz.ntmps27
  go_wp2_with fail
  refine HC.out.mono ?_
  rintro e w1 ⟨rfl, n1⟩
  have N1 := hid n1
  clear n1
  go_wp2_with fail
  refine (HCU.out _ N1.out).mono ?_
  rintro e w2 ⟨v, vs, rfl, hO, n2⟩
  have hvs : j < vs.length := by have := hO.len; omega
  have hOj := hO.each j R[j] vs[j] (List.getElem?_eq_getElem hj) (List.getElem?_eq_getElem hvs)
  have hcj : ∀ g, v.ownBlock = some g → w2.cell? ⟨g, j, none⟩ = some vs[j] := fun g hg => by
    obtain ⟨cap, hv⟩ : ∃ cap, v = .slice (some ⟨g, 0, none⟩) R.length cap := by
      rcases hO.row.2 with ⟨rfl, hn⟩ | ⟨g', cap, cur, rfl, -, -, -⟩
      · cases hg
      · cases hg; exact ⟨cap, rfl⟩
    subst hv
    rw [World.ownsRow.cellAt hO.row j (by omega), List.getElem?_eq_getElem hvs]
  obtain ⟨ra, rc, rfl, hr1, hr2, hr3⟩ := hO.rows
  unfold maxLen at hr2
  rcases hr3 with hr3 | ⟨g, rfl, hg, -⟩
  · subst hr3; simp at hj
  have hc0 := hcj g rfl
  have N2 := hid (N1.out.trans n2)
  obtain ⟨u, hu⟩ : ∃ u, u = vs[j] := ⟨_, rfl⟩
  rw [← hu] at hc0 hOj
  rw [HRS.out] at hOj
  have HSP := hid (hOj.base (base' := w.heap.size) (by have := N1.out.size; omega))
  clear n2 hO hOj hcj hu
  go_wp2
  go_ret2
  exact ⟨u, rfl, HSP.out, N2.out⟩
end Go.Proofs.YtnhgichiedninaaGreatDoor
