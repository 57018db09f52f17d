/-
  Several texts in one, in their build order. The reference's Fetches (package coveyref30), whatever is asked. Conditions: the list lies as told; the library's table is laid. SameFetches (package coveyref30) of two lists that hold the same. Conditions: as they stand. A list of texts that the call makes. Over any program with lists of texts. No condition. Plain facts for the law of ranges: what the files give for the parts, and what is refused. No program but its errors' numbers. No condition.
-/
import Derived.Test.YtnhgichiedninaaGreatDoorM45
import Derived.Deep.QuietTactic
import Derived.BigQuiet
import Derived.Test.YtnhgichiedninaaGreatDoorM3
import Derived.Test.YtnhgichiedninaaGreatDoorM41
namespace Go.Proofs.YtnhgichiedninaaGreatDoor
set_option linter.unusedSimpArgs false
set_option linter.unusedVariables false
open Go.RowKit

theorem rFetches_any (url name : ByteArray) (a : Option Addr) (c : Nat) (l : List FileV) (piece : Int) (new : Bool) (fr cn : Int) (w : World) (h : FilesAt w a c l) (ht : TzAt w) (hu : url.size ≤ 300) (hn : name.size ≤ 150) (h0 : -9223372036854775808 ≤ piece ∧ piece ≤ 9223372036854775807) (f0 : -9223372036854775808 ≤ fr ∧ fr ≤ 9223372036854775807) (c0 : -9223372036854775808 ≤ cn ∧ cn ≤ 9223372036854775807) :
    Calls Tryz.prog 24 #[.int .i64 2, .string url, .string name, .slice a l.length c, .int .i64 piece, .bool new, .agg #[.int .i64 fr, .int .i64 cn]] w fun e w' => ∃ v, e = .returned (.tuple #[v, .int .i64 (fetErr url name l piece new fr cn)]) ∧ OwnFt w' w.heap.size v (fetRes 2 url name l piece new fr cn) ∧ New w w' := by
  by_cases hz : fetErr url name l piece new fr cn = 0
  · have hz2 := hz
    unfold fetErr at hz2
    split at hz2
    · next q => exact absurd hz2 q
    · next q =>
      have ha : askedB url name l = true := by
        cases hq : askedB url name l with
        | true => rfl
        | false => exact absurd (by simp [askE, hq]) q
      obtain ⟨r0, r1, r2, r3⟩ := runErr_ok hz2
      obtain ⟨F, rfl⟩ := Int.eq_ofNat_of_zero_le r1
      obtain ⟨n, rfl⟩ := Int.eq_ofNat_of_zero_le (show 0 ≤ cn by omega)
      have hX : fetRes 2 url name l piece new F n = fetOf 2 url name l (jnOf l (runSp l piece new F n)) := by
        unfold fetRes
        rw [if_pos hz, Int.toNat_natCast]
      rw [hz]
      exact rFetches_ok url name a c l piece new F n w h ht ha h0 r0 (by omega) r3 _ hX
  · exact rFetches_bad url name a c l piece new fr cn w h hu hn h0 f0 c0 _ _ rfl hz (by unfold fetRes; rw [if_neg hz])
end Go.Proofs.YtnhgichiedninaaGreatDoor

namespace Go.Proofs.YtnhgichiedninaaGreatDoor
set_option linter.unusedSimpArgs false
set_option linter.unusedVariables false
open Go.RowKit Go.Shelf

/-- How a list of fetches lies. -/
structure FetAt (w : World) (a : Option Addr) (c : Nat) (L : List FetV) : Prop where
  room : L.length ≤ c
  cap : c ≤ maxLen
  at' : L = [] ∨ ∃ b o, a = some ⟨b, o, none⟩ ∧ b < w.heap.size ∧ ∀ (i : Nat) (s : FetV), L[i]? = some s → w.cell? ⟨b, o + i * 5, none⟩ = some (.int .i64 s.web) ∧ w.cell? ⟨b, o + i * 5 + 1, none⟩ = some (.int .i64 s.file) ∧ w.cell? ⟨b, o + i * 5 + 2, none⟩ = some (.int .i64 s.frm) ∧ w.cell? ⟨b, o + i * 5 + 3, none⟩ = some (.int .i64 s.cnt) ∧ w.cell? ⟨b, o + i * 5 + 4, none⟩ = some (.string s.path)
theorem FetAt.new {w w' : World} {a : Option Addr} {c : Nat} {S : List FetV} (h : FetAt w a c S) (hn : New w w') : FetAt w' a c S := by
  refine ⟨h.room, h.cap, ?_⟩
  rcases h.at' with h | ⟨b, o, e, hb, hc⟩
  · exact .inl h
  · exact .inr ⟨b, o, e, Nat.lt_of_lt_of_le hb hn.size, fun i f hf => ⟨hn.cellv (hc i f hf).1, hn.cellv (hc i f hf).2.1, hn.cellv (hc i f hf).2.2.1, hn.cellv (hc i f hf).2.2.2.1, hn.cellv (hc i f hf).2.2.2.2⟩⟩
theorem FetAt.get {w : World} {a : Option Addr} {c : Nat} {S : List FetV} (h : FetAt w a c S) (hp : 0 < S.length) : ∃ b o, a = some ⟨b, o, none⟩ ∧ b < w.heap.size ∧ ∀ (i : Nat) (hi : i < S.length), w.cell? ⟨b, o + i * 5, none⟩ = some (.int .i64 S[i].web) ∧ w.cell? ⟨b, o + i * 5 + 1, none⟩ = some (.int .i64 S[i].file) ∧ w.cell? ⟨b, o + i * 5 + 2, none⟩ = some (.int .i64 S[i].frm) ∧ w.cell? ⟨b, o + i * 5 + 3, none⟩ = some (.int .i64 S[i].cnt) ∧ w.cell? ⟨b, o + i * 5 + 4, none⟩ = some (.string S[i].path) := by
  rcases h.at' with h | ⟨b, o, e, hb, hc⟩
  · simp [h] at hp
  · exact ⟨b, o, e, hb, fun i hi => hc i _ (List.getElem?_eq_getElem hi)⟩
set_option maxRecDepth 100000 in
set_option maxHeartbeats 2000000 in
theorem sameFt_any (a b : Option Addr) (c d : Nat) (S : List FetV) (w : World) (h : FetAt w a c S) (k : FetAt w b d S) :
    Calls Tryz.prog 25 #[.slice a S.length c, .slice b S.length d] w fun e w' => e = .returned (.bool true) ∧ New w w' := by
  have hr := h.room; have hc := h.cap; have kr := k.room; have kc := k.cap
  unfold maxLen at hc kc
  by_cases hz : 0 < S.length
  · obtain ⟨b1, o1, rfl, hb1, hc1⟩ := h.get hz
    obtain ⟨b2, o2, rfl, hb2, hc2⟩ := k.get (by omega)
    have HC1 := hid hc1; have HC2 := hid hc2
    clear h k hc1 hc2
    go_enter Tryz.func25, Tryz.ntmps25
    go_wp2
    go_loopw [13] (fun i wr => ∃ (j : Nat), i = .int .i64 j ∧ j ≤ S.length ∧ New w wr) (fun i _ => S.length - (intOf i).toNat)
    case atStart => exact ⟨0, rfl, by omega, Mod.refl _ _⟩
    case round =>
      obtain ⟨j, rfl, hj, hn⟩ := hrel
      have HN := hid hn
      by_cases hlt : j < S.length
      · obtain ⟨x0, x1, x2, x3, x4⟩ := HC1.out j hlt
        obtain ⟨y0, y1, y2, y3, y4⟩ := HC2.out j hlt
        have x0 := hn.cellv x0; have x1 := hn.cellv x1; have x2 := hn.cellv x2; have x3 := hn.cellv x3; have x4 := hn.cellv x4
        have y0 := hn.cellv y0; have y1 := hn.cellv y1; have y2 := hn.cellv y2; have y3 := hn.cellv y3; have y4 := hn.cellv y4
        clear hn
        obtain ⟨s, hs⟩ : ∃ s, s = S[j] := ⟨_, rfl⟩
        rw [← hs] at x0 x1 x2 x3 x4 y0 y1 y2 y3 y4
        clear hs
        obtain ⟨s0, s1, s2, s3, s4⟩ := s
        simp only at x0 x1 x2 x3 x4 y0 y1 y2 y3 y4
        go_wp2
        go_region_held3 (fun w' => w'.cell? ⟨b1, o1 + j * 5, none⟩ = some (.int .i64 s0) ∧ w'.cell? ⟨b1, o1 + j * 5 + 1, none⟩ = some (.int .i64 s1) ∧ w'.cell? ⟨b1, o1 + j * 5 + 2, none⟩ = some (.int .i64 s2) ∧ w'.cell? ⟨b1, o1 + j * 5 + 3, none⟩ = some (.int .i64 s3) ∧ w'.cell? ⟨b1, o1 + j * 5 + 4, none⟩ = some (.string s4) ∧ w'.cell? ⟨b2, o2 + j * 5, none⟩ = some (.int .i64 s0) ∧ w'.cell? ⟨b2, o2 + j * 5 + 1, none⟩ = some (.int .i64 s1) ∧ w'.cell? ⟨b2, o2 + j * 5 + 2, none⟩ = some (.int .i64 s2) ∧ w'.cell? ⟨b2, o2 + j * 5 + 3, none⟩ = some (.int .i64 s3) ∧ w'.cell? ⟨b2, o2 + j * 5 + 4, none⟩ = some (.string s4)) (go_keep) (fail)
        go_wp2
        go_roundw
        case rel => exact ⟨j + 1, by simp, by omega, HN.out.drew⟩
        case measure => simp [intOf]; omega
      · clear hn
        go_wp2
        go_ret
        exact ⟨rfl, HN.out⟩
  · obtain rfl : S = [] := List.eq_nil_of_length_eq_zero (by omega)
    clear h k hz
    go_enter Tryz.func25, Tryz.ntmps25
    go_wp2
    refine wp_loop_rounds 1 ?_
    rw [rounds_succ]
    go_wp2
    go_ret
    exact ⟨rfl, Mod.refl _ _⟩
/-- A list that the call made lies so. -/
theorem OwnFt.lies {w : World} {base : Nat} {v : Value} {L : List FetV} (h : OwnFt w base v L) : ∃ a c, v = .slice a L.length c ∧ FetAt w a c L := by
  have h0 := h
  rcases h.2 with ⟨rfl, hn⟩ | ⟨g, cap, cur, rfl, hbg, hg, hnc, hcm, hcs, htake⟩
  · have hL : L = [] := List.eq_nil_of_length_eq_zero hn
    subst hL
    exact ⟨none, 0, rfl, by simp, by simp [maxLen], .inl rfl⟩
  · refine ⟨_, cap, rfl, hnc, hcm, .inr ⟨g, 0, rfl, (Array.getElem?_eq_some_iff.1 hg).1, fun i s hs => ?_⟩⟩
    have hi := (List.getElem?_eq_some_iff.1 hs).1
    have hsp : L = L.take i ++ s :: L.drop (i + 1) := by
      have e : L[i] = s := (List.getElem?_eq_some_iff.1 hs).2
      rw [← e, List.getElem_cons_drop, List.take_append_drop]
    have hc : ∀ j u, j < 5 → (fetCells s)[j]? = some u → w.cell? ⟨g, i * 5 + j, none⟩ = some u := by
      intro j u hj hu
      have h1 := World.ownsRow.cells (g := g) h0 rfl (i * 5 + j) u (by
        rw [hsp, fetRow_app, List.getElem?_append_right (by rw [fetRow_len, List.length_take]; omega), fetRow_len, List.length_take, show i * 5 + j - min i L.length * 5 = j by omega]
        show (fetCells s ++ fetRow _)[j]? = some u
        rw [List.getElem?_append_left (by simp [fetCells]; omega)]
        exact hu)
      rw [add_none] at h1
      simpa using h1
    simp only [Nat.zero_add]
    exact ⟨hc 0 _ (by omega) rfl, hc 1 _ (by omega) rfl, hc 2 _ (by omega) rfl, hc 3 _ (by omega) rfl, hc 4 _ (by omega) rfl⟩
end Go.Proofs.YtnhgichiedninaaGreatDoor

namespace Go.Proofs.YtnhgichiedninaaGreatDoor
set_option linter.unusedSimpArgs false
set_option linter.unusedVariables false
open Go.RowKit

/-! ### a list of texts of the call's own -/
theorem info_strS : (Tryz.prog.info? 9).map (fun i => (i.zero, i.size, i.bytes)) = some (some (.string ⟨#[]⟩), 1, 16) := by kernel_rfl
/-- The slice v, of the call's own memory from block base on, holds the texts l. -/
structure OwS (w : World) (base : Nat) (v : Value) (l : List ByteArray) : Prop where
  row : w.ownsRow base 9 1 v l.length (l.map Value.string)
  small : ∀ s ∈ l, s.size ≤ maxLen
theorem OwS.nil (w : World) (base : Nat) : OwS w base (.slice none 0 0) [] := ⟨World.ownsRow_nil _ _ _ _, by simp⟩
theorem OwS.block {w : World} {base g : Nat} {v : Value} {l : List ByteArray} (h : OwS w base v l) (hv : v.ownBlock = some g) : base ≤ g ∧ g < w.heap.size := by
  rcases h.row.2 with ⟨rfl, hn⟩ | ⟨g', cap, cur, rfl, hbg, hg, -⟩
  · cases hv
  · injection hv with hv
    subst hv
    exact ⟨hbg, (Array.getElem?_eq_some_iff.1 hg).1⟩
theorem OwS.mod {S : Nat → Prop} {w w' : World} {base : Nat} {v : Value} {l : List ByteArray} (h : OwS w base v l) (n : Mod S w w') (hs : ∀ k, base ≤ k → k < w.heap.size → ¬ S k) : OwS w' base v l := by
  refine ⟨?_, h.small⟩
  rcases h.row.2 with ⟨rfl, hn⟩ | ⟨g, cap, cur, rfl, hbg, hg, r⟩
  · exact ⟨h.row.1, .inl ⟨rfl, hn⟩⟩
  · have hlt := (Array.getElem?_eq_some_iff.1 hg).1
    exact ⟨h.row.1, .inr ⟨g, cap, cur, rfl, hbg, (n.block g hlt (hs g hbg hlt)).trans hg, r⟩⟩
theorem OwS.new {w w' : World} {base : Nat} {v : Value} {l : List ByteArray} (h : OwS w base v l) (n : New w w') : OwS w' base v l := h.mod n (fun _ _ _ x => x)
theorem OwS.strs {w : World} {base : Nat} {v : Value} {l : List ByteArray} (h : OwS w base v l) : ∃ a c, v = .slice a l.length c ∧ StrsAt w a c l ∧ ∀ x, a = some x → base ≤ x.block ∧ x.block < w.heap.size := by
  rcases h.row.2 with ⟨rfl, hn⟩ | ⟨g, cap, cur, rfl, hbg, hg, hnc, hcm, hcs, htake⟩
  · have : l = [] := List.eq_nil_of_length_eq_zero hn
    subst this
    exact ⟨none, 0, rfl, ⟨by simp, by simp [maxLen], by simp, .inl rfl⟩, by simp⟩
  · have hlt := (Array.getElem?_eq_some_iff.1 hg).1
    refine ⟨some ⟨g, 0, none⟩, cap, rfl, ⟨hnc, hcm, h.small, .inr ⟨g, 0, rfl, hlt, fun i s hi => ?_⟩⟩, fun x hx => ?_⟩
    · have h1 := h.row.cells (g := g) rfl i (.string s) (by simp [hi])
      have hadd : ∀ k, (⟨g, 0, none⟩ : Addr).add k = ⟨g, 0 + k, none⟩ := fun k => by unfold Addr.add; split <;> simp_all
      rw [hadd] at h1
      exact h1
    · simp at hx
      subst hx
      exact ⟨hbg, hlt⟩
theorem owS_of {w : World} {base : Nat} {v : Value} {l : List ByteArray} {s : ByteArray} (hl : ∀ s ∈ l, s.size ≤ maxLen) (hs : s.size ≤ maxLen) (h : w.ownsRow base 9 1 v (l.length + 1) (l.map Value.string ++ [.string s])) : OwS w base v (l ++ [s]) := by
  refine ⟨by rw [List.length_append, List.map_append]; exact h, fun x hx => ?_⟩
  rcases List.mem_append.1 hx with q | q
  · exact hl x q
  · simp only [List.mem_singleton] at q
    rw [q]
    exact hs
theorem OwS.base {w : World} {base base' : Nat} {v : Value} {l : List ByteArray} (h : OwS w base v l) (hb : base' ≤ base) : OwS w base' v l := by
  refine ⟨⟨h.row.1, ?_⟩, h.small⟩
  rcases h.row.2 with h1 | ⟨g, cap, cur, e, hbg, rest⟩
  · exact .inl h1
  · exact .inr ⟨g, cap, cur, e, Nat.le_trans hb hbg, rest⟩
theorem OwS.at' {w : World} {base n c : Nat} {a : Option Addr} {l : List ByteArray} (h : OwS w base (.slice a n c) l) (hl : 0 < l.length) : ∃ g, a = some ⟨g, 0, none⟩ ∧ n = l.length ∧ base ≤ g ∧ g < w.heap.size ∧ (∀ i, w.frozen? ⟨g, i, none⟩ = false) ∧ ∀ (i : Nat) (hi : i < l.length), w.cell? ⟨g, i, none⟩ = some (.string l[i]) := by
  have h0 := h.row
  rcases h.row.2 with ⟨-, q⟩ | ⟨g, cap, cur, q, hbg, hg, -⟩
  · omega
  · injection q with q1 q2 q3
    subst q1 q2 q3
    refine ⟨g, rfl, rfl, hbg, (Array.getElem?_eq_some_iff.1 hg).1, fun i => by simp [World.frozen?, hg], fun i hi => ?_⟩
    have h1 := h0.cells (g := g) rfl i (.string l[i]) (by simp [hi])
    have hadd : ∀ k, (⟨g, 0, none⟩ : Addr).add k = ⟨g, 0 + k, none⟩ := fun k => by unfold Addr.add; split <;> simp_all
    rw [hadd, Nat.zero_add] at h1
    exact h1
/-- A text of the list is written anew. -/
theorem OwS.put {w : World} {base g n cap : Nat} {l : List ByteArray} (h : OwS w base (.slice (some ⟨g, 0, none⟩) n cap) l) {k : Nat} (hk : k < l.length) {t : ByteArray} (ht : t.size ≤ maxLen) :
    OwS (w.setCell ⟨g, k, none⟩ (.string t)) base (.slice (some ⟨g, 0, none⟩) n cap) (l.set k t) := by
  rcases h.row.2 with ⟨q, -⟩ | ⟨g', cap', cur, q, hbg, hg, hnc, hcm, hcs, htake⟩
  · cases q
  · injection q with q1 q2 q3
    injection q1 with q1
    injection q1 with q1
    subst q1 q2 q3
    have hb : Blk w g cur 9 := hg
    have hs := hb.set k (.string t)
    refine ⟨⟨by rw [List.length_map, List.length_set, Nat.mul_one], .inr ⟨g, cap, cur.setIfInBounds k (.string t), by rw [List.length_set], hbg, hs, by rw [List.length_set]; exact hnc, hcm, by simpa using hcs, ?_⟩⟩, ?_⟩
    · rw [List.length_set, Array.toList_setIfInBounds, List.map_set, ← htake]
      apply List.ext_getElem?
      intro j
      rw [List.getElem?_take, List.getElem?_set, List.getElem?_set, List.getElem?_take, List.length_take]
      have hcl : l.length * 1 ≤ cur.toList.length := by
        have := congrArg List.length htake
        rw [List.length_take, List.length_map] at this
        omega
      by_cases h1 : j < l.length * 1
      · rw [if_pos h1, if_pos h1]
        by_cases h2 : k = j
        · rw [if_pos h2, if_pos h2, if_pos (by omega), if_pos (by omega)]
        · rw [if_neg h2, if_neg h2]
      · rw [if_neg h1, if_neg h1, if_neg (by omega)]
    · intro s hs'
      rcases List.mem_or_eq_of_mem_set hs' with q | q
      · exact h.small s q
      · rw [q]; exact ht
end Go.Proofs.YtnhgichiedninaaGreatDoor

namespace Go.Proofs.YtnhgichiedninaaGreatDoor
set_option linter.unusedSimpArgs false
set_option linter.unusedVariables false
open Go.RowKit

theorem fetErr_ok {url name : ByteArray} {l : List FileV} {piece : Int} {new : Bool} {fr cn : Int} (h : fetErr url name l piece new fr cn = 0) : validOf l = true ∧ runErr l piece new fr cn = 0 := by
  unfold fetErr at h
  by_cases hz : askE url name l = 0
  · rw [if_neg (fun q => q hz)] at h
    refine ⟨?_, h⟩
    by_cases hq : askedB url name l = true
    · exact (asked_facts hq).2.2.2.2
    · unfold askE at hz
      rw [if_neg hq] at hz
      cases hz
  · rw [if_pos hz] at h
    exact absurd h hz
/-- A part's file: its number, what it is, and that the file's text holds the part. -/
theorem part_in {l : List FileV} {data : List ByteArray} (hl : data.length = l.length) (hd : fitsD l data = true) {p : SpanV} (hp : PartOf l p) : ∃ (k fr cn : Nat) (hk : k < data.length), p = ⟨k, fr, cn⟩ ∧ fr + cn ≤ data[k].size ∧ cutT data p = data[k].extract fr (fr + cn) ∧ (data[k].extract fr (fr + cn)).size = cn := by
  obtain ⟨⟨k, f, b1, b2, b3, b4, b5⟩, q⟩ := hp
  have hkl : k < l.length := (List.getElem?_eq_some_iff.1 b2).1
  have hk : k < data.length := by omega
  have hdk : data[k]? = some data[k] := List.getElem?_eq_getElem hk
  have hfit := fitsD_at hl hd b2 hdk
  unfold padS at q
  rw [b1, Int.toNat_natCast, b2] at q
  simp only at q
  unfold fitD at hfit
  rw [q] at hfit
  simp only [Bool.false_and, Bool.or_false, decide_eq_true_eq] at hfit
  obtain ⟨sf, sr, sc⟩ := p
  simp only at b1 b3 b4 b5
  obtain ⟨a, rfl⟩ := Int.eq_ofNat_of_zero_le b3
  obtain ⟨b, rfl⟩ := Int.eq_ofNat_of_zero_le (show 0 ≤ sc by omega)
  subst b1
  refine ⟨k, a, b, hk, rfl, by omega, ?_, ext_size _ _ _ (by omega)⟩
  unfold cutT
  rw [Int.toNat_natCast, hdk]
  rfl
theorem cuts_next (data : List ByteArray) {S : List SpanV} {k : Nat} (h : k < S.length) : (S.take (k + 1)).map (cutT data) = (S.take k).map (cutT data) ++ [cutT data S[k]] := by
  rw [List.take_succ_eq_append_getElem h, List.map_append]
  rfl
theorem read_ok {l : List FileV} {data : List ByteArray} {piece : Int} {new : Bool} {i : Int} (hv : wayErr l piece = 0) (hl : data.length = l.length) (hd : fitsD l data = true) (i0 : 0 ≤ i) (i1 : i < piecesOf l piece new) : readErr l data (spansOf l piece new i) = 0 ∧ readX l data (spansOf l piece new i) = readOf l data (spansOf l piece new i) := by
  obtain ⟨hvv, hpp⟩ := way_ok hv
  obtain ⟨v1, v2, v3, v4⟩ := valid_facts hvv
  obtain ⟨p1, p2⟩ := piece_range hpp
  have e : spansRes l piece new i = spansOf l piece new i := by
    unfold spansRes spansErr
    rw [if_pos (by rw [if_pos hv, if_neg (by omega)])]
  obtain ⟨r1, r2⟩ := res_bounds (l := l) (piece := piece) (new := new) (i := i)
  rw [e] at r2
  have hall : (spansOf l piece new i).all (inF l) = true := by
    rw [List.all_eq_true]
    intro s hs
    obtain ⟨k, f, a1, a2, a3, a4, a5⟩ := spans_in new (show 0 < piece by omega) v3 i0 s hs
    have hkl : k < l.length := (List.getElem?_eq_some_iff.1 a2).1
    unfold inF
    rw [a1, Int.toNat_natCast, a2]
    simp only [Bool.and_eq_true, decide_eq_true_eq]
    omega
  have he : readErr l data (spansOf l piece new i) = 0 := by
    unfold readErr
    rw [if_pos hvv, if_pos hl, if_pos hd, if_pos hall, if_neg (by omega)]
  exact ⟨he, by unfold readX; rw [if_pos he]⟩
theorem pie_zero {l : List FileV} {piece : Int} {new : Bool} {fr : Int} {n : Nat} {texts : List ByteArray} (hv : validOf l = true) (hr : runErr l piece new fr n = 0) (hf : fitsP (jnOf l (runSp l piece new fr n)) texts) : pieErr l piece new fr n texts = 0 := by
  unfold pieErr
  rw [if_pos hv, if_neg (fun q => q hr), Int.toNat_natCast, if_pos hf]
theorem pie_size {l : List FileV} {piece : Int} {new : Bool} {fr : Int} {n : Nat} {texts : List ByteArray} (hv : validOf l = true) (hr : runErr l piece new fr n = 0) (hf : ¬ fitsP (jnOf l (runSp l piece new fr n)) texts) : pieErr l piece new fr n texts = 11 := by
  unfold pieErr
  rw [if_pos hv, if_neg (fun q => q hr), Int.toNat_natCast, if_neg hf]
/-- A text that is one byte longer does not fit. -/
theorem spoilt {S : List SpanV} {X : List ByteArray} (h : fitsP S X) {k : Nat} (hk : k < X.length) {t : ByteArray} (ht : t.size = X[k].size + 1) : ¬ fitsP S (X.set k t) := by
  intro q
  have hS : k < S.length := by rw [← h.1]; exact hk
  have h1 := h.2 k S[k] X[k] (List.getElem?_eq_getElem hS) (List.getElem?_eq_getElem hk)
  have h2 := q.2 k S[k] t (List.getElem?_eq_getElem hS) (by rw [List.getElem?_set_self (by omega)])
  omega
theorem fewer {S : List SpanV} {X : List ByteArray} (h : X.length = S.length) {k : Nat} (hk : k < X.length) : ¬ fitsP S (X.take k) := by
  intro q
  have := q.1
  rw [List.length_take] at this
  omega
/-- The number of the text that is spoilt. -/
theorem spoil_at (s : Int) {m : Nat} (h : 0 < m) : ∃ k : Nat, k < m ∧ ((s.tmod m + m).tmod m) = k ∧ -(m : Int) < s.tmod m ∧ s.tmod m < m := by
  have hm : (0 : Int) < m := by omega
  have h1 : s.tmod m < m := Int.tmod_lt_of_pos s hm
  have h2 : -(m : Int) < s.tmod m := by
    have := Int.tmod_lt_of_pos (-s) hm
    rw [Int.neg_tmod] at this
    omega
  have h3 : 0 ≤ s.tmod m + m := by omega
  have h4 : 0 ≤ (s.tmod m + m).tmod m := Int.tmod_nonneg _ h3
  have h5 : (s.tmod m + m).tmod m < m := Int.tmod_lt_of_pos _ hm
  obtain ⟨k, hk⟩ := Int.eq_ofNat_of_zero_le h4
  exact ⟨k, by omega, hk, h2, h1⟩
end Go.Proofs.YtnhgichiedninaaGreatDoor
