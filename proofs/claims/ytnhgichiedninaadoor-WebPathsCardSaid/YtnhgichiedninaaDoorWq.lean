/-
  The walk of the reference's Path. Conditions: the list lies as told, the library's table is laid, lengths are ints.
-/
import Derived.Test.YtnhgichiedninaaDoorWp
import Derived.Test.YtnhgichiedninaaDoorWx
namespace Go.Proofs.YtnhgichiedninaaDoor
set_option linter.unusedSimpArgs false
set_option linter.unusedVariables false
open Go.RowKit Go.Shelf

theorem asked_no {url name : ByteArray} {l : List FileV} (h : askedB url name l = false) : validU url = false ∨ (validU url = true ∧ name.size = 0) ∨ (validU url = true ∧ name.size ≠ 0 ∧ 100 < name.size) ∨ (validU url = true ∧ name.size ≠ 0 ∧ name.size ≤ 100 ∧ validOf l = false) := by
  cases h1 : validU url with
  | false => exact .inl rfl
  | true =>
    by_cases h2 : name.size = 0
    · exact .inr (.inl ⟨rfl, h2⟩)
    · by_cases h3 : name.size ≤ 100
      · refine .inr (.inr (.inr ⟨rfl, h2, h3, ?_⟩))
        unfold askedB at h
        simpa [h1, h2, h3] using h
      · exact .inr (.inr (.inl ⟨rfl, h2, by omega⟩))
set_option maxRecDepth 100000 in
set_option maxHeartbeats 4000000 in
theorem rwPath_pad (url name : ByteArray) (a : Option Addr) (c : Nat) (l : List FileV) (k : Nat) (R : List UInt8) (E : Int) (w : World) (hu : url.size ≤ 9223372036854775807) (hn : name.size ≤ 9223372036854775807) (h : FilesAt w a c l) (ht : TzAt w) (ha : askedB url name l = true) (hk : k < l.length) (hp : l[k].pad = true) (q1 : E = 10) (q2 : R = []) :
    Calls Tryd.prog 7 #[.string url, .string name, .slice a l.length c, .int .i64 k] w fun e w' => e = .returned (.tuple #[.string ⟨R.toArray⟩, .int .i64 E]) ∧ New w w' := by
  have hr := h.room; have hc := h.cap
  unfold maxLen at hc
  have hval := wrValid_any url w hu
  have hrv := rvalid_any a c l w h
  have hempty := size_empty (s := name)
  obtain ⟨f1, f2, f3, f4, f5⟩ := asked_facts ha
  rw [f1] at hval
  rw [decide_eq_false f3] at hempty
  have hgd := good_of f5 l[k] (List.getElem_mem hk)
  rw [f5] at hrv
  have hI : decide ((100 : Int) < (name.size : Int)) = false := decide_eq_false (by omega)
  have H1 := hid hval; have H2 := hid hrv
  obtain ⟨b, o, rfl, hb, hc2⟩ := h.get (by omega)
  obtain ⟨pa, pc, d0, d1, d2, hst, -⟩ := hc2 k hk
  have HTZ := hid (fun W (n : New w W) => ht.new n)
  have huo : urlOf url name l k = (if l.length = 1 ∧ endsSlash url.data.toList = false then url.data.toList else (if endsSlash url.data.toList then url.data.toList else url.data.toList ++ [47]) ++ escOf name.data.toList ++ (if l.length = 1 then [] else [47] ++ escOf (joinB l[k].path).data.toList)) := by
    rw [urlOf, List.getElem?_eq_getElem hk]
    rfl
  obtain ⟨f, hf⟩ : ∃ f, f = l[k] := ⟨_, rfl⟩
  rw [← hf] at d0 d1 d2 hst hp hgd huo
  have D2 := hid d2; have D0 := hid d0; have HST := hid hst
  obtain ⟨g1, g2, g3, g4, g5⟩ := hgd
  have hkI : (k : Int) < (l.length : Int) := by omega
  clear ha f1 f3 f5 h ht hc2 hst d0 d1 d2 hf hval hrv g1 g2 g5
  have Q1 := hid q1; have Q2 := hid q2
  rw [hp] at D2
  clear q1 q2 hp huo
  go_enter Tryd.func7, Tryd.ntmps7
  go_wp2_with fail
  refine H1.out.mono ?_
  rintro e w1 ⟨rfl, rfl⟩
  go_wp2_with fail
  refine H2.out.mono ?_
  rintro e w2 ⟨rfl, n2⟩
  have N2 := hid n2
  have d2 := n2.cellv D2.out
  have hbw : b < w2.heap.size := by have := n2.size; omega
  clear n2
  go_wp2
  go_ret2
  exact ⟨ret_url Q2.out Q1.out, N2.out⟩
set_option maxRecDepth 100000 in
set_option maxHeartbeats 4000000 in
theorem rwPath_ok (url name : ByteArray) (a : Option Addr) (c : Nat) (l : List FileV) (k : Nat) (R : List UInt8) (E : Int) (w : World) (hu : url.size ≤ 9223372036854775807) (hn : name.size ≤ 9223372036854775807) (h : FilesAt w a c l) (ht : TzAt w) (ha : askedB url name l = true) (hk : k < l.length) (hp : l[k].pad = false) (q1 : E = 0) (q2 : R = urlOf url name l k) :
    Calls Tryd.prog 7 #[.string url, .string name, .slice a l.length c, .int .i64 k] w fun e w' => e = .returned (.tuple #[.string ⟨R.toArray⟩, .int .i64 E]) ∧ New w w' := by
  have hr := h.room; have hc := h.cap
  unfold maxLen at hc
  have hval := wrValid_any url w hu
  have hrv := rvalid_any a c l w h
  have hempty := size_empty (s := name)
  obtain ⟨f1, f2, f3, f4, f5⟩ := asked_facts ha
  rw [f1] at hval
  rw [decide_eq_false f3] at hempty
  have hgd := good_of f5 l[k] (List.getElem_mem hk)
  rw [f5] at hrv
  have hI : decide ((100 : Int) < (name.size : Int)) = false := decide_eq_false (by omega)
  have H1 := hid hval; have H2 := hid hrv
  obtain ⟨b, o, rfl, hb, hc2⟩ := h.get (by omega)
  obtain ⟨pa, pc, d0, d1, d2, hst, -⟩ := hc2 k hk
  have HTZ := hid (fun W (n : New w W) => ht.new n)
  have huo : urlOf url name l k = (if l.length = 1 ∧ endsSlash url.data.toList = false then url.data.toList else (if endsSlash url.data.toList then url.data.toList else url.data.toList ++ [47]) ++ escOf name.data.toList ++ (if l.length = 1 then [] else [47] ++ escOf (joinB l[k].path).data.toList)) := by
    rw [urlOf, List.getElem?_eq_getElem hk]
    rfl
  obtain ⟨f, hf⟩ : ∃ f, f = l[k] := ⟨_, rfl⟩
  rw [← hf] at d0 d1 d2 hst hp hgd huo
  have D2 := hid d2; have D0 := hid d0; have HST := hid hst
  obtain ⟨g1, g2, g3, g4, g5⟩ := hgd
  have hkI : (k : Int) < (l.length : Int) := by omega
  clear ha f1 f3 f5 h ht hc2 hst d0 d1 d2 hf hval hrv g1 g2 g5
  rw [huo] at q2
  rw [hp] at D2
  have Q1 := hid q1
  have HEN := hid (fun W (n : New w W) => rescaped_any name W (by omega) (HTZ.out W n))
  have HEP := hid (fun W (n : New w W) => rescaped_any (joinB f.path) W (by omega) (HTZ.out W n))
  have HPT := hid (fun W (n : New w W) => rPath_any pa pc f.path W (HST.out.new n) (by omega))
  obtain ⟨EN, hEN⟩ : ∃ x : ByteArray, x = ⟨(escOf name.data.toList).toArray⟩ := ⟨_, rfl⟩
  have hez : EN.size ≤ 300 := by rw [hEN, size_list]; have := escOf_len name.data.toList; have : name.data.toList.length = name.size := (by rw [Array.length_toList]; rfl); omega
  rw [← hEN] at HEN
  have hENd : escOf name.data.toList = EN.data.toList := by rw [hEN]
  rw [hENd] at q2
  obtain ⟨J, hJ⟩ : ∃ J, J = joinB f.path := ⟨_, rfl⟩
  rw [← hJ] at HPT HEP q2 g4
  obtain ⟨G, hG⟩ : ∃ G : ByteArray, G = ⟨(escOf J.data.toList).toArray⟩ := ⟨_, rfl⟩
  have hgz : G.size ≤ 1080 := by rw [hG, size_list]; have := escOf_len J.data.toList; have : J.data.toList.length = J.size := (by rw [Array.length_toList]; rfl); omega
  rw [← hG] at HEP
  have hGd : escOf J.data.toList = G.data.toList := by rw [hG]
  rw [hGd] at q2
  clear q1 hp huo hEN hENd hJ hG hGd
  cases hsl : endsSlash url.data.toList with
  | true =>
    have HS := hid (fun w => suffix_eq url (by omega) hsl w)
    rw [hsl] at q2
    by_cases h1 : l.length = 1
    · have h1I : ((l.length : Int) == 1) = true := by rw [beq_iff_eq]; omega
      have h1J : decide ((1 : Int) < (l.length : Int)) = false := decide_eq_false (by omega)
      have HX : Hid (R = url.data.toList ++ EN.data.toList) := hid (by rw [q2, if_neg (by simp), if_pos rfl, if_pos h1, List.append_nil])
      clear q2 hsl h1
      go_enter Tryd.func7, Tryd.ntmps7
      go_wp2_with fail
      refine H1.out.mono ?_
      rintro e w1 ⟨rfl, rfl⟩
      go_wp2_with fail
      refine H2.out.mono ?_
      rintro e w2 ⟨rfl, n2⟩
      have N2 := hid n2
      have d2 := n2.cellv D2.out
      have hbw : b < w2.heap.size := by have := n2.size; omega
      clear n2
      go_wp2_with fail
      refine (HS.out _).mono ?_
      rintro e w3 ⟨rfl, rfl⟩
      go_wp2_with fail
      refine (HS.out _).mono ?_
      rintro e w3 ⟨rfl, rfl⟩
      go_wp2_with fail
      refine (HEN.out _ N2.out).mono ?_
      rintro e w4 ⟨rfl, n4⟩
      have N4 := hid (N2.out.trans n4)
      clear n4
      go_wp2
      go_ret2
      exact ⟨ret_url (by rw [HX.out]; simp) Q1.out, N4.out⟩
    · have h1I : ((l.length : Int) == 1) = false := by rw [beq_eq_false_iff_ne]; omega
      have h1J : decide ((1 : Int) < (l.length : Int)) = true := decide_eq_true (by omega)
      have HX : Hid (R = url.data.toList ++ EN.data.toList ++ ([47] ++ G.data.toList)) := hid (by rw [q2, if_neg (by simp), if_pos rfl, if_neg h1])
      clear q2 hsl h1
      go_enter Tryd.func7, Tryd.ntmps7
      go_wp2_with fail
      refine H1.out.mono ?_
      rintro e w1 ⟨rfl, rfl⟩
      go_wp2_with fail
      refine H2.out.mono ?_
      rintro e w2 ⟨rfl, n2⟩
      have N2 := hid n2
      have d2 := n2.cellv D2.out
      have hbw : b < w2.heap.size := by have := n2.size; omega
      clear n2
      go_wp2_with fail
      refine (HS.out _).mono ?_
      rintro e w3 ⟨rfl, rfl⟩
      go_wp2_with fail
      refine (HEN.out _ N2.out).mono ?_
      rintro e w4 ⟨rfl, n4⟩
      have N4 := hid (N2.out.trans n4)
      clear n4
      have d0 := N4.out.cellv D0.out
      have hbw4 : b < w4.heap.size := by have := N4.out.size; omega
      go_wp2_with fail
      refine (HPT.out _ N4.out).mono ?_
      rintro e w5 ⟨rfl, rfl⟩
      go_wp2_with fail
      refine (HEP.out _ N4.out).mono ?_
      rintro e w6 ⟨rfl, n6⟩
      have N6 := hid (N4.out.trans n6)
      clear n6
      go_wp2
      go_ret2
      exact ⟨ret_url (by rw [HX.out]; simp) Q1.out, N6.out⟩
  | false =>
    have HS := hid (fun w => suffix_eq url (by omega) hsl w)
    rw [hsl] at q2
    by_cases h1 : l.length = 1
    · have h1I : ((l.length : Int) == 1) = true := by rw [beq_iff_eq]; omega
      have HX : Hid (R = url.data.toList) := hid (by rw [q2, if_pos ⟨h1, rfl⟩])
      clear q2 hsl h1
      go_enter Tryd.func7, Tryd.ntmps7
      go_wp2_with fail
      refine H1.out.mono ?_
      rintro e w1 ⟨rfl, rfl⟩
      go_wp2_with fail
      refine H2.out.mono ?_
      rintro e w2 ⟨rfl, n2⟩
      have N2 := hid n2
      have d2 := n2.cellv D2.out
      have hbw : b < w2.heap.size := by have := n2.size; omega
      clear n2
      go_wp2_with fail
      refine (HS.out _).mono ?_
      rintro e w3 ⟨rfl, rfl⟩
      go_wp2
      go_ret2
      exact ⟨ret_url HX.out Q1.out, N2.out⟩
    · have h1I : ((l.length : Int) == 1) = false := by rw [beq_eq_false_iff_ne]; omega
      have h1J : decide ((1 : Int) < (l.length : Int)) = true := decide_eq_true (by omega)
      have HX : Hid (R = url.data.toList ++ [47] ++ EN.data.toList ++ ([47] ++ G.data.toList)) := hid (by rw [q2, if_neg (by simp [h1]), if_neg (by decide), if_neg h1])
      clear q2 hsl h1
      go_enter Tryd.func7, Tryd.ntmps7
      go_wp2_with fail
      refine H1.out.mono ?_
      rintro e w1 ⟨rfl, rfl⟩
      go_wp2_with fail
      refine H2.out.mono ?_
      rintro e w2 ⟨rfl, n2⟩
      have N2 := hid n2
      have d2 := n2.cellv D2.out
      have hbw : b < w2.heap.size := by have := n2.size; omega
      clear n2
      go_wp2_with fail
      refine (HS.out _).mono ?_
      rintro e w3 ⟨rfl, rfl⟩
      go_wp2_with fail
      refine (HEN.out _ N2.out).mono ?_
      rintro e w4 ⟨rfl, n4⟩
      have N4 := hid (N2.out.trans n4)
      clear n4
      have d0 := N4.out.cellv D0.out
      have hbw4 : b < w4.heap.size := by have := N4.out.size; omega
      go_wp2_with fail
      refine (HPT.out _ N4.out).mono ?_
      rintro e w5 ⟨rfl, rfl⟩
      go_wp2_with fail
      refine (HEP.out _ N4.out).mono ?_
      rintro e w6 ⟨rfl, n6⟩
      have N6 := hid (N4.out.trans n6)
      clear n6
      go_wp2
      go_ret2
      exact ⟨ret_url (by rw [HX.out]; simp) Q1.out, N6.out⟩
set_option maxRecDepth 100000 in
set_option maxHeartbeats 4000000 in
theorem rwPath_any (url name : ByteArray) (a : Option Addr) (c : Nat) (l : List FileV) (file : Int) (w : World) (hu : url.size ≤ 9223372036854775807) (hn : name.size ≤ 9223372036854775807) (h : FilesAt w a c l) (ht : TzAt w) :
    Calls Tryd.prog 7 #[.string url, .string name, .slice a l.length c, .int .i64 file] w fun e w' => e = .returned (.tuple #[.string ⟨(urlRes url name l file).toArray⟩, .int .i64 (urlErr url name l file)]) ∧ New w w' := by
  have hcs := url_cases url name l file
  obtain ⟨R, hR⟩ : ∃ R, R = urlRes url name l file := ⟨_, rfl⟩
  obtain ⟨E, hE⟩ : ∃ E, E = urlErr url name l file := ⟨_, rfl⟩
  rw [← hR, ← hE] at hcs
  rw [← hR, ← hE]
  have hr := h.room; have hc := h.cap
  unfold maxLen at hc
  have hval := wrValid_any url w hu
  have hrv := rvalid_any a c l w h
  have hempty := size_empty (s := name)
  clear hR hE
  rcases hcs with ⟨ha, q1, q2⟩ | ⟨ha, hf, q1, q2⟩ | ⟨ha, k, hk, rfl, hk2⟩
  · have Q1 := hid q1; have Q2 := hid q2
    rcases asked_no ha with g1 | ⟨g1, g2⟩ | ⟨g1, g2, g3⟩ | ⟨g1, g2, g3, g4⟩
    · rw [g1] at hval
      have H1 := hid hval
      clear ha q1 q2 h ht hval hrv g1 hempty
      go_enter Tryd.func7, Tryd.ntmps7
      go_wp2_with fail
      refine H1.out.mono ?_
      rintro e w1 ⟨rfl, rfl⟩
      go_wp2
      go_ret2
      exact ⟨ret_url Q2.out Q1.out, Mod.refl _ _⟩
    · rw [g1] at hval
      rw [decide_eq_true g2] at hempty
      have H1 := hid hval
      clear ha q1 q2 h ht hval hrv g1 g2
      go_enter Tryd.func7, Tryd.ntmps7
      go_wp2_with fail
      refine H1.out.mono ?_
      rintro e w1 ⟨rfl, rfl⟩
      go_wp2
      go_ret2
      exact ⟨ret_url Q2.out Q1.out, Mod.refl _ _⟩
    · rw [g1] at hval
      rw [decide_eq_false g2] at hempty
      have hI : decide ((100 : Int) < (name.size : Int)) = true := decide_eq_true (by omega)
      have H1 := hid hval
      clear ha q1 q2 h ht hval hrv g1 g2
      go_enter Tryd.func7, Tryd.ntmps7
      go_wp2_with fail
      refine H1.out.mono ?_
      rintro e w1 ⟨rfl, rfl⟩
      go_wp2
      go_ret2
      exact ⟨ret_url Q2.out Q1.out, Mod.refl _ _⟩
    · rw [g1] at hval
      rw [decide_eq_false g2] at hempty
      rw [g4] at hrv
      have hI : decide ((100 : Int) < (name.size : Int)) = false := decide_eq_false (by omega)
      have H1 := hid hval; have H2 := hid hrv
      clear ha q1 q2 h ht hval hrv g1 g2 g4
      go_enter Tryd.func7, Tryd.ntmps7
      go_wp2_with fail
      refine H1.out.mono ?_
      rintro e w1 ⟨rfl, rfl⟩
      go_wp2_with fail
      refine H2.out.mono ?_
      rintro e w2 ⟨rfl, n2⟩
      have N2 := hid n2
      clear n2
      go_wp2
      go_ret2
      exact ⟨ret_url Q2.out Q1.out, N2.out⟩
  · obtain ⟨f1, f2, f3, f4, f5⟩ := asked_facts ha
    have Q1 := hid q1; have Q2 := hid q2
    rw [f1] at hval
    rw [decide_eq_false f3] at hempty
    rw [f5] at hrv
    have hI : decide ((100 : Int) < (name.size : Int)) = false := decide_eq_false (by omega)
    have H1 := hid hval; have H2 := hid hrv
    clear ha q1 q2 h ht hval hrv f1 f3 f5
    go_enter Tryd.func7, Tryd.ntmps7
    go_wp2_with fail
    refine H1.out.mono ?_
    rintro e w1 ⟨rfl, rfl⟩
    go_wp2_with fail
    refine H2.out.mono ?_
    rintro e w2 ⟨rfl, n2⟩
    have N2 := hid n2
    clear n2
    by_cases hf0 : file < 0
    · go_wp2
      go_ret2
      exact ⟨ret_url Q2.out Q1.out, N2.out⟩
    · have hf1 : (l.length : Int) ≤ file := by omega
      have hf2 : 0 ≤ file := by omega
      clear hf
      go_wp2
      go_ret2
      exact ⟨ret_url Q2.out Q1.out, N2.out⟩
  · rcases hk2 with ⟨hp, q1, q2⟩ | ⟨hp, q1, q2⟩
    · exact rwPath_pad url name a c l k R E w hu hn h ht ha hk hp q1 q2
    · exact rwPath_ok url name a c l k R E w hu hn h ht ha hk hp q1 q2
end Go.Proofs.YtnhgichiedninaaDoor
