/-
  Several texts in one, in their build order. The walk of Wrong (the reference). Condition: the list lies as told.
-/
import Derived.Test.YtnhgichiedninaaGreatDoorM42
namespace Go.Proofs.YtnhgichiedninaaGreatDoor
set_option linter.unusedSimpArgs false
set_option linter.unusedVariables false
open Go.RowKit

def dup1 (g f : FileV) : Bool := !f.pad && !g.pad && (decide (f.path <+: g.path) || decide (g.path <+: f.path))
theorem dupR_upto {l : List FileV} {k : Nat} {f : FileV} (hk : k ≤ l.length) (h : ∀ (i : Nat) (hi : i < l.length), i < k → dup1 l[i] f = false) : dupR (l.take k) f = false := by
  unfold dupR
  rw [List.any_eq_false]
  intro g hg
  obtain ⟨i, hi, rfl⟩ := List.mem_iff_getElem.1 hg
  simp at hi
  rw [List.getElem_take]
  have := h i (by omega) (by omega)
  unfold dup1 at this
  simp [this]
theorem dupR_at {l : List FileV} {k m : Nat} {f : FileV} (hk : k ≤ l.length) (hm : m < k) (h : dup1 (l[m]'(by omega)) f = true) : dupR (l.take k) f = true := by
  unfold dupR
  rw [List.any_eq_true]
  refine ⟨l[m]'(by omega), ?_, h⟩
  rw [List.mem_iff_getElem]
  exact ⟨m, by simp; omega, by simp⟩

theorem goR_some {last : Nat} {pre : List FileV} {k : Nat} {tot : Int} {f : FileV} {r : List FileV} {e : Int} (h : errR pre tot k last f = some e) : goR last pre k tot (f :: r) = ((k : Int), e) := by
  rw [goR, h]
theorem goR_none {last : Nat} {pre : List FileV} {k : Nat} {tot : Int} {f : FileV} {r : List FileV} (h : errR pre tot k last f = none) : goR last pre k tot (f :: r) = goR last (pre ++ [f]) (k + 1) (tot + f.len) r := by
  rw [goR, h]
theorem ret_two {a b c d : Int} (h : a = c) (h2 : b = d) : Ending.returned (.tuple #[.int .i64 a, .int .i64 b]) = .returned (.tuple #[.int .i64 c, .int .i64 d]) := by rw [h, h2]
theorem ret_res {k e : Int} {res : Int × Int} (h : res = (k, e)) : Ending.returned (.tuple #[.int .i64 k, .int .i64 e]) = .returned (.tuple #[.int .i64 res.1, .int .i64 res.2]) := by rw [h]


set_option maxRecDepth 100000 in
set_option maxHeartbeats 4000000 in
theorem rwrong_go (a : Option Addr) (c : Nat) (l : List FileV) (w : World) (h : FilesAt w a c l) (h1 : 1 ≤ l.length) (h2 : l.length ≤ 40) :
    Calls Tryz.prog 91 #[.slice a l.length c] w fun e w' => e = .returned (.tuple #[.int .i64 (goR (l.length - 1) [] 0 0 l).1, .int .i64 (goR (l.length - 1) [] 0 0 l).2]) ∧ New w w' := by
  have hb : ¬ (l.length : Int) < 1 := by omega
  have hb2 : ¬ (40 : Int) < l.length := by omega
  have hroom := h.room; have hcap := h.cap
  unfold maxLen at hcap
  obtain ⟨sb, so, rfl, hsb, hsc⟩ := h.get (by omega)
  have HSC := hid hsc
  obtain ⟨res, hres⟩ : ∃ r, r = goR (l.length - 1) [] 0 0 l := ⟨_, rfl⟩
  rw [← hres]
  have HRES := hid hres
  clear h hsc hres
  go_enter Tryz.func91, Tryz.ntmps91
  go_wp2
  go_loopw [19, 4] (fun i s wr => ∃ (k : Nat) (tot : Int), i = .int .i64 k ∧ s = .int .i64 tot ∧ k ≤ l.length ∧ 0 ≤ tot ∧ tot ≤ 65536 ∧ goR (l.length - 1) (l.take k) k tot (l.drop k) = res ∧ New w wr) (fun i _ _ => l.length - (intOf i).toNat)
  case atStart => exact ⟨0, 0, rfl, rfl, by omega, by omega, by omega, HRES.out.symm, Mod.refl _ _⟩
  case round =>
    obtain ⟨k, tot, rfl, rfl, hk, ht0, ht1, hgo, hn⟩ := hrel
    have HN := hid hn
    have HG := hid hgo
    have hsz := hn.size
    clear hgo
    by_cases hlt : k < l.length
    · have hfa := (HSC.out k hlt).new HN.out
      have HLK := hid (show l.drop k = l[k] :: l.drop (k + 1) from List.drop_eq_getElem_cons hlt)
      have HTK := hid (show l.take (k + 1) = l.take k ++ [l[k]] by rw [List.take_add_one, List.getElem?_eq_getElem hlt]; rfl)
      obtain ⟨f, hf⟩ : ∃ f, f = l[k] := ⟨_, rfl⟩
      rw [← hf] at hfa HLK HTK
      clear hf
      obtain ⟨pa, pc, g0, g1, g2, hst, hlen⟩ := hfa
      have HST := hid hst
      have HNM := hid (fun W (n : New wr W) => named_any pa pc f W (hst.new n) hlen)
      clear hst hlen hn
      cases hnm : namedR f with
      | false =>
        rw [hnm] at HNM
        have HE := hid hnm
        obtain ⟨pad, HP⟩ : ∃ p, Hid (f.pad = p) := ⟨_, rfl⟩
        clear hnm
        go_wp2_with (first | (go_at_call 134; refine (HNM.out _ ?_).mono ?_; (focus (exact ((Mod.refl _ _).alloc _))); rintro e w1 ⟨rfl, n1⟩; have N1 := hid (Mod.trans (((Mod.refl (fun _ => False) wr).alloc _)) n1); have B1 := hid (n1.blk (Blk.new wr #[.slice pa f.path.length pc, .int .i64 f.len, .bool f.pad] 60)); have a0 : w1.cell? ⟨wr.heap.size, 0, none⟩ = some (.slice pa f.path.length pc) := B1.out.cellv 0 rfl; have a1 : w1.cell? ⟨wr.heap.size, 1, none⟩ = some (.int .i64 f.len) := B1.out.cellv 1 rfl; have a2 : w1.cell? ⟨wr.heap.size, 2, none⟩ = some (.bool f.pad) := B1.out.cellv 2 rfl; have a3 := B1.out.lt; rw [HP.out] at a2; clear n1))
        go_ret2
        exact ⟨ret_res (by rw [← HG.out, HLK.out]; exact goR_some (by simp [errR, HE.out])), HN.out.trans N1.out⟩
      | true =>
        rw [hnm] at HNM
        have HE := hid hnm
        clear hnm
        cases r1 : decide (f.len < 0) with
        | true =>
          obtain ⟨pad, HP⟩ : ∃ p, Hid (f.pad = p) := ⟨_, rfl⟩
          go_wp2_with (first | (go_at_call 134; refine (HNM.out _ ?_).mono ?_; (focus (exact ((Mod.refl _ _).alloc _))); rintro e w1 ⟨rfl, n1⟩; have N1 := hid (Mod.trans (((Mod.refl (fun _ => False) wr).alloc _)) n1); have B1 := hid (n1.blk (Blk.new wr #[.slice pa f.path.length pc, .int .i64 f.len, .bool f.pad] 60)); have a0 : w1.cell? ⟨wr.heap.size, 0, none⟩ = some (.slice pa f.path.length pc) := B1.out.cellv 0 rfl; have a1 : w1.cell? ⟨wr.heap.size, 1, none⟩ = some (.int .i64 f.len) := B1.out.cellv 1 rfl; have a2 : w1.cell? ⟨wr.heap.size, 2, none⟩ = some (.bool f.pad) := B1.out.cellv 2 rfl; have a3 := B1.out.lt; rw [HP.out] at a2; clear n1))
          go_ret2
          exact ⟨ret_res (by rw [← HG.out, HLK.out]; exact goR_some (by simp only [errR, HE.out, r1]; simp)), HN.out.trans N1.out⟩
        | false =>
          cases r2 : decide (65536 < f.len) with
          | true =>
            obtain ⟨pad, HP⟩ : ∃ p, Hid (f.pad = p) := ⟨_, rfl⟩
            go_wp2_with (first | (go_at_call 134; refine (HNM.out _ ?_).mono ?_; (focus (exact ((Mod.refl _ _).alloc _))); rintro e w1 ⟨rfl, n1⟩; have N1 := hid (Mod.trans (((Mod.refl (fun _ => False) wr).alloc _)) n1); have B1 := hid (n1.blk (Blk.new wr #[.slice pa f.path.length pc, .int .i64 f.len, .bool f.pad] 60)); have a0 : w1.cell? ⟨wr.heap.size, 0, none⟩ = some (.slice pa f.path.length pc) := B1.out.cellv 0 rfl; have a1 : w1.cell? ⟨wr.heap.size, 1, none⟩ = some (.int .i64 f.len) := B1.out.cellv 1 rfl; have a2 : w1.cell? ⟨wr.heap.size, 2, none⟩ = some (.bool f.pad) := B1.out.cellv 2 rfl; have a3 := B1.out.lt; rw [HP.out] at a2; clear n1))
            go_ret2
            exact ⟨ret_res (by rw [← HG.out, HLK.out]; exact goR_some (by simp only [errR, HE.out, r1, r2]; simp)), HN.out.trans N1.out⟩
          | false =>
            cases hp : f.pad with
            | true =>
              have HP : Hid (f.pad = true) := hid hp
              clear hp
              cases r3 : (f.len == 0) with
              | true =>
                have R4 : Hid (decide (f.len = 0) = true) := hid (by simpa using r3)
                go_wp2_with (first | (go_at_call 134; refine (HNM.out _ ?_).mono ?_; (focus (exact ((Mod.refl _ _).alloc _))); rintro e w1 ⟨rfl, n1⟩; have N1 := hid (Mod.trans (((Mod.refl (fun _ => False) wr).alloc _)) n1); have B1 := hid (n1.blk (Blk.new wr #[.slice pa f.path.length pc, .int .i64 f.len, .bool f.pad] 60)); have a0 : w1.cell? ⟨wr.heap.size, 0, none⟩ = some (.slice pa f.path.length pc) := B1.out.cellv 0 rfl; have a1 : w1.cell? ⟨wr.heap.size, 1, none⟩ = some (.int .i64 f.len) := B1.out.cellv 1 rfl; have a2 : w1.cell? ⟨wr.heap.size, 2, none⟩ = some (.bool f.pad) := B1.out.cellv 2 rfl; have a3 := B1.out.lt; rw [HP.out] at a2; clear n1))
                go_ret2
                exact ⟨ret_res (by rw [← HG.out, HLK.out]; exact goR_some (by simp only [errR, HE.out, r1, r2, HP.out, R4.out]; simp)), HN.out.trans N1.out⟩
              | false =>
                have ER := hid (show (decide (f.len < 0) || decide (65536 < f.len) || (f.pad && decide (f.len = 0))) = false by
                  have r4 : decide (f.len = 0) = false := by simpa using r3
                  simp only [r1, r2, HP.out, r4]; rfl)
                go_wp2_with (first | (go_at_call 134; refine (HNM.out _ ?_).mono ?_; (focus (exact ((Mod.refl _ _).alloc _))); rintro e w1 ⟨rfl, n1⟩; have N1 := hid (Mod.trans (((Mod.refl (fun _ => False) wr).alloc _)) n1); have B1 := hid (n1.blk (Blk.new wr #[.slice pa f.path.length pc, .int .i64 f.len, .bool f.pad] 60)); have a0 : w1.cell? ⟨wr.heap.size, 0, none⟩ = some (.slice pa f.path.length pc) := B1.out.cellv 0 rfl; have a1 : w1.cell? ⟨wr.heap.size, 1, none⟩ = some (.int .i64 f.len) := B1.out.cellv 1 rfl; have a2 : w1.cell? ⟨wr.heap.size, 2, none⟩ = some (.bool f.pad) := B1.out.cellv 2 rfl; have a3 := B1.out.lt; rw [HP.out] at a2; clear n1))
                go_loopw [50] (fun j wr2 => ∃ m : Nat, j = .int .i64 m ∧ m ≤ k ∧ (∀ (i : Nat) (hi : i < l.length), i < m → dup1 l[i] f = false) ∧ New w1 wr2) (fun j _ => k - (intOf j).toNat)
                case atStart => exact ⟨0, rfl, by omega, by intros; omega, Mod.refl _ _⟩
                case round =>
                  obtain ⟨m, rfl, hm, hdup, hn2⟩ := hrel
                  have HN2 := hid hn2
                  have HDUP := hid hdup
                  obtain ⟨b0, b1, b2, b3, b4⟩ := Blk.file (f := f) (pa := pa) (pc := pc) (hn2.blk B1.out)
                  rw [HP.out] at b2
                  clear hn2 hdup
                  by_cases hmk : m < k
                  · have hga := (HSC.out m (by omega)).new (HN.out.trans (N1.out.trans HN2.out))
                    obtain ⟨g, hg⟩ : ∃ g, g = l[m]'(by omega) := ⟨_, rfl⟩
                    rw [← hg] at hga
                    have HGE : Hid (g = l[m]'(by omega)) := hid hg
                    clear hg
                    obtain ⟨qa, qc, y0, y1, y2, hst2, -⟩ := hga
                    have HSGG := hid hst2
                    have HSF := hid ((HST.out.new N1.out).new HN2.out)
                    clear hst2
                    go_wp2
                    have ED := hid (show dup1 g f = false by simp [dup1, HP.out])
                    exact ⟨⟨m + 1, by simp, by omega, fun i hi h => by rcases Nat.lt_succ_iff_lt_or_eq.1 h with h | h; exact HDUP.out i hi h; subst h; rw [← HGE.out]; exact ED.out, HN2.out.alloc _⟩, by simp [intOf]; omega⟩
                  · have ED : Hid (dupR (l.take k) f = false) := hid (dupR_upto hk (fun i hi h => HDUP.out i hi (by omega)))
                    cases s1 : ((k : Int) == 0) with
                    | true =>
                      have EB : Hid (badState k (l.length - 1) f = true) := hid (by simp only [badState, HP.out, show decide (k = 0) = true from by simpa using s1]; simp)
                      go_wp2
                      go_ret2
                      exact ⟨ret_res (by rw [← HG.out, HLK.out]; exact goR_some (by simp only [errR, HE.out, ER.out, ED.out, EB.out]; simp)), HN.out.trans (N1.out.trans HN2.out)⟩
                    | false =>
                      cases s2 : ((k : Int) == (l.length : Int) - 1) with
                      | true =>
                        have EB : Hid (badState k (l.length - 1) f = true) := hid (by simp only [badState, HP.out, show decide (k = l.length - 1) = true from by simp at s2; simp; omega]; simp)
                        go_wp2
                        go_ret2
                        exact ⟨ret_res (by rw [← HG.out, HLK.out]; exact goR_some (by simp only [errR, HE.out, ER.out, ED.out, EB.out]; simp)), HN.out.trans (N1.out.trans HN2.out)⟩
                      | false =>
                        have ES := hid (show badState k (l.length - 1) f = false by
                          simp only [badState, show decide (k = 0) = false from by simpa using s1, show decide (k = l.length - 1) = false from by simp at s2; simp; omega]
                          simp)
                        have q1 : 0 ≤ f.len := by simpa using r1
                        have q2 : f.len ≤ 65536 := by simpa using r2
                        cases z : decide (65536 < tot + f.len) with
                        | true =>
                          go_wp2
                          go_ret2
                          exact ⟨ret_res (by rw [← HG.out, HLK.out]; exact goR_some (by simp only [errR, HE.out, ER.out, ED.out, ES.out, show 65536 < tot + f.len from by simpa using z]; simp)), HN.out.trans (N1.out.trans HN2.out)⟩
                        | false =>
                          have Z : Hid (¬ 65536 < tot + f.len) := hid (by simpa using z)
                          go_wp2
                          exact ⟨⟨k + 1, tot + f.len, by simp, rfl, by omega, by omega, by have := Z.out; omega, by rw [HTK.out, ← HG.out, HLK.out, goR_none (by simp only [errR, HE.out, ER.out, ED.out, ES.out, Z.out]; simp)], HN.out.trans (N1.out.trans HN2.out)⟩, by simp [intOf]; omega⟩
            | false =>
              have HP : Hid (f.pad = false) := hid hp
              clear hp
              have ER := hid (show (decide (f.len < 0) || decide (65536 < f.len) || (f.pad && decide (f.len = 0))) = false by
                simp only [r1, r2, HP.out]; rfl)
              go_wp2_with (first | (go_at_call 134; refine (HNM.out _ ?_).mono ?_; (focus (exact ((Mod.refl _ _).alloc _))); rintro e w1 ⟨rfl, n1⟩; have N1 := hid (Mod.trans (((Mod.refl (fun _ => False) wr).alloc _)) n1); have B1 := hid (n1.blk (Blk.new wr #[.slice pa f.path.length pc, .int .i64 f.len, .bool f.pad] 60)); have a0 : w1.cell? ⟨wr.heap.size, 0, none⟩ = some (.slice pa f.path.length pc) := B1.out.cellv 0 rfl; have a1 : w1.cell? ⟨wr.heap.size, 1, none⟩ = some (.int .i64 f.len) := B1.out.cellv 1 rfl; have a2 : w1.cell? ⟨wr.heap.size, 2, none⟩ = some (.bool f.pad) := B1.out.cellv 2 rfl; have a3 := B1.out.lt; rw [HP.out] at a2; clear n1))
              go_loopw [50] (fun j wr2 => ∃ m : Nat, j = .int .i64 m ∧ m ≤ k ∧ (∀ (i : Nat) (hi : i < l.length), i < m → dup1 l[i] f = false) ∧ New w1 wr2) (fun j _ => k - (intOf j).toNat)
              case atStart => exact ⟨0, rfl, by omega, by intros; omega, Mod.refl _ _⟩
              case round =>
                obtain ⟨m, rfl, hm, hdup, hn2⟩ := hrel
                have HN2 := hid hn2
                have HDUP := hid hdup
                obtain ⟨b0, b1, b2, b3, b4⟩ := Blk.file (f := f) (pa := pa) (pc := pc) (hn2.blk B1.out)
                rw [HP.out] at b2
                clear hn2 hdup
                by_cases hmk : m < k
                · have hga := (HSC.out m (by omega)).new (HN.out.trans (N1.out.trans HN2.out))
                  obtain ⟨g, hg⟩ : ∃ g, g = l[m]'(by omega) := ⟨_, rfl⟩
                  rw [← hg] at hga
                  have HGE : Hid (g = l[m]'(by omega)) := hid hg
                  clear hg
                  obtain ⟨qa, qc, y0, y1, y2, hst2, -⟩ := hga
                  have HSGG := hid hst2
                  have HSF := hid ((HST.out.new N1.out).new HN2.out)
                  clear hst2
                  cases gp : g.pad with
                  | true =>
                    have HGP : Hid (g.pad = true) := hid gp
                    rw [gp] at y2
                    clear gp
                    go_wp2
                    have ED := hid (show dup1 g f = false by simp [dup1, HGP.out])
                    exact ⟨⟨m + 1, by simp, by omega, fun i hi h => by rcases Nat.lt_succ_iff_lt_or_eq.1 h with h | h; exact HDUP.out i hi h; subst h; rw [← HGE.out]; exact ED.out, HN2.out.alloc _⟩, by simp [intOf]; omega⟩
                  | false =>
                    have HGP : Hid (g.pad = false) := hid gp
                    rw [gp] at y2
                    clear gp
                    have HW1 := hid (fun W (n : New wr W) => within_any pa qa pc qc f.path g.path W (HSF.out.new n) (HSGG.out.new n))
                    have HW2 := hid (fun W (n : New wr W) => within_any qa pa qc pc g.path f.path W (HSGG.out.new n) (HSF.out.new n))
                    have tok : True := trivial
                    cases d1 : decide (f.path <+: g.path) with
                    | true =>
                      rw [d1] at HW1
                      have ED := hid (show dup1 (l[m]'(by omega)) f = true by rw [← HGE.out]; simp only [dup1, HP.out, HGP.out, d1]; rfl)
                      clear d1
                      go_wp2_with (first | (go_at_call 135; refine (HW1.out _ ?_).mono ?_; (focus (exact ((Mod.refl _ _).alloc _))); rintro e w3 ⟨rfl, rfl⟩))
                      go_ret2
                      exact ⟨ret_res (by rw [← HG.out, HLK.out]; exact goR_some (by simp only [errR, HE.out, ER.out, dupR_at hk hmk ED.out]; simp)), (HN.out.trans (N1.out.trans (HN2.out))).trans ((Mod.refl _ _).alloc _)⟩
                    | false =>
                      rw [d1] at HW1
                      cases d2 : decide (g.path <+: f.path) with
                      | true =>
                        rw [d2] at HW2
                        have ED := hid (show dup1 (l[m]'(by omega)) f = true by rw [← HGE.out]; simp only [dup1, HP.out, HGP.out, d1, d2]; rfl)
                        clear d1 d2
                        go_wp2_with (first | (go_at_call 135; have tk := tok; clear tok; refine (HW1.out _ ?_).mono ?_; (focus (exact ((Mod.refl _ _).alloc _))); rintro e w3 ⟨rfl, rfl⟩) | (go_at_call 135; refine (HW2.out _ ?_).mono ?_; (focus (exact ((Mod.refl _ _).alloc _))); rintro e w3 ⟨rfl, rfl⟩))
                        go_ret2
                        exact ⟨ret_res (by rw [← HG.out, HLK.out]; exact goR_some (by simp only [errR, HE.out, ER.out, dupR_at hk hmk ED.out]; simp)), (HN.out.trans (N1.out.trans (HN2.out))).trans ((Mod.refl _ _).alloc _)⟩
                      | false =>
                        rw [d2] at HW2
                        have ED := hid (show dup1 g f = false by simp only [dup1, d1, d2]; simp)
                        clear d1 d2
                        go_wp2_with (first | (go_at_call 135; have tk := tok; clear tok; refine (HW1.out _ ?_).mono ?_; (focus (exact ((Mod.refl _ _).alloc _))); rintro e w3 ⟨rfl, rfl⟩) | (go_at_call 135; refine (HW2.out _ ?_).mono ?_; (focus (exact ((Mod.refl _ _).alloc _))); rintro e w3 ⟨rfl, rfl⟩))
                        exact ⟨⟨m + 1, by simp, by omega, fun i hi h => by rcases Nat.lt_succ_iff_lt_or_eq.1 h with h | h; exact HDUP.out i hi h; subst h; rw [← HGE.out]; exact ED.out, HN2.out.alloc _⟩, by simp [intOf]; omega⟩
                · have ED : Hid (dupR (l.take k) f = false) := hid (dupR_upto hk (fun i hi h => HDUP.out i hi (by omega)))
                  have ES := hid (show badState k (l.length - 1) f = false by simp [badState, HP.out])
                  have q1 : 0 ≤ f.len := by simpa using r1
                  have q2 : f.len ≤ 65536 := by simpa using r2
                  cases z : decide (65536 < tot + f.len) with
                  | true =>
                    go_wp2
                    go_ret2
                    exact ⟨ret_res (by rw [← HG.out, HLK.out]; exact goR_some (by simp only [errR, HE.out, ER.out, ED.out, ES.out, show 65536 < tot + f.len from by simpa using z]; simp)), HN.out.trans (N1.out.trans HN2.out)⟩
                  | false =>
                    have Z : Hid (¬ 65536 < tot + f.len) := hid (by simpa using z)
                    go_wp2
                    exact ⟨⟨k + 1, tot + f.len, by simp, rfl, by omega, by omega, by have := Z.out; omega, by rw [HTK.out, ← HG.out, HLK.out, goR_none (by simp only [errR, HE.out, ER.out, ED.out, ES.out, Z.out]; simp)], HN.out.trans (N1.out.trans HN2.out)⟩, by simp [intOf]; omega⟩
    · have hr : Hid (res = (-1, 0)) := hid (by
        rw [← HG.out, List.drop_of_length_le (by omega)]
        rfl)
      clear hn
      go_wp2
      go_ret2
      exact ⟨ret_res hr.out, HN.out⟩

set_option maxHeartbeats 1000000 in
theorem rwrong_limit (a : Option Addr) (n c : Nat) (w : World) (hn : (n : Int) ≤ 9223372036854775807) (h : n = 0 ∨ 40 < n) :
    Calls Tryz.prog 91 #[.slice a n c] w fun e w' => e = .returned (.tuple #[.int .i64 0, .int .i64 4]) ∧ New w w' := by
  rcases h with h | h
  · have hb : (n : Int) < 1 := by omega
    clear h
    go_enter Tryz.func91, Tryz.ntmps91
    go_wp2
    go_ret2
    exact ⟨rfl, Mod.refl _ _⟩
  · have hb : ¬ (n : Int) < 1 := by omega
    have hb2 : (40 : Int) < n := by omega
    clear h
    go_enter Tryz.func91, Tryz.ntmps91
    go_wp2
    go_ret2
    exact ⟨rfl, Mod.refl _ _⟩
theorem rwrong_any (a : Option Addr) (c : Nat) (l : List FileV) (w : World) (h : FilesAt w a c l) :
    Calls Tryz.prog 91 #[.slice a l.length c] w fun e w' => e = .returned (.tuple #[.int .i64 (wrongOf l).1, .int .i64 (wrongOf l).2]) ∧ New w w' := by
  rw [← wrong_same l h.fits]
  by_cases hl : l.length = 0 ∨ 40 < l.length
  · have e : wrongR l = (0, 4) := by unfold wrongR; rw [if_pos hl]
    rw [e]
    have := h.room; have := h.cap
    unfold maxLen at *
    exact rwrong_limit a l.length c w (by omega) hl
  · have e : wrongR l = goR (l.length - 1) [] 0 0 l := by unfold wrongR; rw [if_neg hl]
    rw [e]
    exact rwrong_go a c l w h (by omega) (by omega)
set_option maxHeartbeats 1000000 in
theorem rvalid_any (a : Option Addr) (c : Nat) (l : List FileV) (w : World) (h : FilesAt w a c l) :
    Calls Tryz.prog 61 #[.slice a l.length c] w fun e w' => e = .returned (.bool (validOf l)) ∧ New w w' := by
  have HW := hid (rwrong_any a c l w h)
  clear h
  go_enter Tryz.func61, Tryz.ntmps61
  go_wp2_with (go_at_call 91; refine HW.out.mono ?_; rintro e w1 ⟨rfl, h1⟩; have H1 := hid h1; clear h1)
  go_ret
  refine ⟨ret_bool ?_, H1.out⟩
  rw [validOf, Bool.eq_iff_iff]
  simp
end Go.Proofs.YtnhgichiedninaaGreatDoor
