/-
  Several texts in one, in their build order. The library's variables, out of what a row lays and the world's shape. Plain facts over the program. No condition.
-/
import Derived.Test.YtbgmkplpolgebaaGreatDoorM14
import Derived.Test.YtbgmkplpolgebaaGreatDoorM23
import Derived.Test.YtbgmkplpolgebaaGreatDoorM28
import Derived.Test.YtbgmkplpolgebaaGreatDoorCards
import Derived.Lib.LaidU8
import Derived.SizedLaws
import Derived.Shelf.Vars
namespace Go.Proofs.YtbgmkplpolgebaaGreatDoor
set_option linter.unusedSimpArgs false
set_option linter.unusedVariables false
open Go.ChangeShapes Go.WideShapes Go.ChangeAt Go.RowKit Go.Deep

theorem tab_reads {P : Program} {W : World} {name : String} {k : IntKind} {zs : List Int} {g : Nat} {t e : TypeId} {n : Nat}
    (hg : P.globalNamed name = some g) (hty : (P.globals[g]?).map (·.type) = some t) (ht : P.underlying t = some (.array n e)) (he : P.underlying e = some (.int k)) (hce : P.cellsOf e = 1) (hct : P.cellsOf t = n)
    (h : Lib.VarReads P W name (Lib.tabData k zs)) : Lib.TabIs P W name k zs := by
  obtain ⟨g', t', cs, fuel, p, hg', ht', hvar, hd⟩ := h
  obtain rfl := Option.some.inj (hg.symm.trans hg')
  obtain rfl := Option.some.inj (hty.symm.trans ht')
  unfold Lib.TabIs
  rw [hvar, ← Lib.cells_of_tab ht he hce hct hd]
theorem iface_reads {P : Program} {n nm : String} {d : DataW Unit} {W : World} {g : Nat} {ti : TypeId} {ms : Array (String × TypeId)} (h : Lib.VarReads P W n (.iface nm d)) (hg : P.globalNamed n = some g) (ht : (P.globals[g]?).map (·.type) = some ti) (hi : P.underlying ti = some (.interface ms)) :
    ∃ tp v, W.var? P n = some #[.iface tp v] := by
  obtain ⟨g0, t0, cs0, f0, p0, hg0, ht0, hv0, hd0⟩ := h
  obtain rfl := Option.some.inj (hg.symm.trans hg0)
  obtain rfl := Option.some.inj (ht.symm.trans ht0)
  obtain ⟨f1, u, v, hc, -, -⟩ := iface_of_trod hi hd0
  refine ⟨u, v, ?_⟩
  rw [hv0]
  congr 1
  apply Array.toList_inj.1
  rw [hc]
def litZ : DataW Unit → Int
  | .lit (.int _ z) => z
  | _ => 0
def tz64 : List Int := match (Rows.laid_math_bits_deBruijn64tab : DataW Unit) with
  | .agg l => l.map litZ
  | _ => []
theorem tz_data : (Rows.laid_math_bits_deBruijn64tab : DataW Unit) = Lib.tabData .u8 tz64 := by kernel_rfl
theorem syn_typeP : Tryz.prog.globalNamed "strconv.ErrSyntax" = some 5 ∧ (Tryz.prog.globals[5]?).map (·.type) = some 141 := ⟨by kernel_rfl, by kernel_rfl⟩
theorem rng_typeP : Tryz.prog.globalNamed "strconv.ErrRange" = some 6 ∧ (Tryz.prog.globals[6]?).map (·.type) = some 141 := ⟨by kernel_rfl, by kernel_rfl⟩
theorem tz_type : Tryz.prog.globalNamed "math/bits.deBruijn64tab" = some 8 ∧ (Tryz.prog.globals[8]?).map (·.type) = some 245 := ⟨by kernel_rfl, by kernel_rfl⟩
theorem pw_type : Tryz.prog.globalNamed "internal/strconv.uint64pow10" = some 4 ∧ (Tryz.prog.globals[4]?).map (·.type) = some 230 := ⟨by kernel_rfl, by kernel_rfl⟩
theorem vars_ofP {l : List (String × DataW Unit)} {W : World} (h : laidMet Tryz.prog l W) (hs : W.ShapedOpen Tryz.prog)
    (m1 : ("math/bits.deBruijn64tab", Rows.laid_math_bits_deBruijn64tab) ∈ l) (m2 : ("internal/strconv.uint64pow10", Rows.laid_internal_strconv_uint64pow10) ∈ l) (m3 : ("strconv.ErrRange", Rows.laid_strconv_ErrRange) ∈ l) (m4 : ("strconv.ErrSyntax", Rows.laid_strconv_ErrSyntax) ∈ l) : VarP W := by
  refine ⟨?_, ?_, ?_, ?_, ?_⟩
  · exact tab_reads pw_type.1 pw_type.2 Tryz.underlying230 Tryz.underlying191 (by kernel_rfl) (by kernel_rfl) (Lib.laidMet.reads h m2)
  · exact iface_reads (Lib.laidMet.reads h m4) syn_typeP.1 syn_typeP.2 Tryz.underlying141
  · exact iface_reads (Lib.laidMet.reads h m3) rng_typeP.1 rng_typeP.2 Tryz.underlying141
  · exact cell_of_shapedOpen_int (g := 0) (t := 3) (zero := #[.int .i64 0]) hs (of_decide_eq_true (by kernel_rfl)) (by kernel_rfl) rfl (by kernel_rfl) (by kernel_rfl) Tryz.underlying3
  · have ht := tab_reads (zs := tz64) tz_type.1 tz_type.2 Tryz.underlying245 Tryz.underlying5 (by kernel_rfl) (by kernel_rfl) (tz_data ▸ Lib.laidMet.reads h m1)
    have := ht.cell tz_type.1 15 (by decide +kernel)
    rw [this]
    rfl
end Go.Proofs.YtbgmkplpolgebaaGreatDoor
