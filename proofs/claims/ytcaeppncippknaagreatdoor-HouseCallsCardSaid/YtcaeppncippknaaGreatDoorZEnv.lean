/- What the row's list of package variables gives: the facts (Env) that the walks lean on. Conditions: the list's own words, and the world's shape. -/
import Derived.Test.YtcaeppncippknaaGreatDoorRows
import Derived.Test.YtcaeppncippknaaGreatDoorZNumA
import Derived.Stop.LaidErr
import Derived.Lib.LaidTab
import Derived.MakeChecks
namespace Go.Proofs.YtcaeppncippknaaGreatDoor
open Go Go.RowKit

def laidL : List (String × DataW Unit) := [("math/bits.deBruijn32tab", Rows.laid_math_bits_deBruijn32tab), ("math/bits.deBruijn64tab", Rows.laid_math_bits_deBruijn64tab), ("internal/strconv.uint64pow10", Rows.laid_internal_strconv_uint64pow10), ("unicode/utf8.acceptRanges", Rows.laid_unicode_utf8_acceptRanges), ("strconv.ErrRange", Rows.laid_strconv_ErrRange), ("strconv.ErrSyntax", Rows.laid_strconv_ErrSyntax), ("unicode/utf8.first", Rows.laid_unicode_utf8_first)]
theorem pow_laid : (Rows.laid_internal_strconv_uint64pow10 : DataW Unit) = Lib.tabData .u64 Lib.pow10Tab := by kernel_rfl
theorem gSyn : Tryz.prog.globalNamed "strconv.ErrSyntax" = some 0 := by kernel_rfl
theorem gRng : Tryz.prog.globalNamed "strconv.ErrRange" = some 1 := by kernel_rfl
theorem gSynT : (Tryz.prog.globals[0]?).map (·.type) = some 66 := by kernel_rfl
theorem gRngT : (Tryz.prog.globals[1]?).map (·.type) = some 66 := by kernel_rfl
theorem gPowT : (Tryz.prog.globals[2]?).map (·.type) = some 157 := by kernel_rfl
theorem cells20 : Tryz.prog.cellsOf 157 = 20 := by kernel_rfl
theorem cellsU64 : Tryz.prog.cellsOf 27 = 1 := by kernel_rfl
theorem cellsStr : Tryz.prog.cellsOf 9 = 1 := by kernel_rfl
theorem cellsErr : Tryz.prog.cellsOf 164 = 1 := by kernel_rfl
theorem starErr : "*" ++ "errors.errorString" = "*errors.errorString" := by decide
theorem rowErr (u : TypeId) (h : Tryz.prog.typeName? 3 u = some "*errors.errorString") : u = 162 :=
  typeName_ptr_named (nm := "errors.errorString") (by rw [starErr]; kernel_rfl) (by kernel_rfl) (by decide) u (by rw [starErr]; exact h)

theorem env_of_laid {W : World} (h : laidMetH Tryz.prog laidL W) (hsh : W.ShapedOpen Tryz.prog) : Env W := by
  rw [MakeChecks.laidMetH_plain _ _ _ (by kernel_rfl)] at h
  have h2 := h.tail.tail
  rw [pow_laid] at h2
  have hpow : Lib.TabIs Tryz.prog W "internal/strconv.uint64pow10" .u64 Lib.pow10Tab := Lib.tabIs_of_head powNamed gPowT Tryz.underlying157 Tryz.underlying27 cellsU64 cells20 h2
  have h4 := h2.tail.tail
  obtain ⟨a0, s0, hv0, hc0, _, _⟩ := laid_sentinel h4 gRng gRngT Tryz.underlying66 rowErr Tryz.underlying162 Tryz.underlying164 rfl rfl Tryz.underlying9 cellsErr cellsStr
  obtain ⟨a1, s1, hv1, hc1, _, _⟩ := laid_sentinel h4.tail gSyn gSynT Tryz.underlying66 rowErr Tryz.underlying162 Tryz.underlying164 rfl rfl Tryz.underlying9 cellsErr cellsStr
  have hlen := Go.Proofs.cell_of_shapedOpen_int (g := 3) (zero := #[.int .i64 0]) (t := 3) hsh (of_decide_eq_true (by kernel_rfl)) (by kernel_rfl) rfl (by kernel_rfl) (by kernel_rfl) Tryz.underlying3
  obtain ⟨ps, ⟨g7, t7, cs7, f7, p7, q7, hg7, ht7, hv7, _, _, _⟩, _, _⟩ := h.tail
  obtain rfl := Option.some.inj ((show Tryz.prog.globalNamed "math/bits.deBruijn64tab" = some 7 by kernel_rfl).symm.trans hg7)
  refine ⟨?_, ⟨_, _, by simpa using World.var?_cell gSyn hv1 0⟩, ⟨_, _, by simpa using World.var?_cell gRng hv0 0⟩, hpow, hlen⟩
  unfold World.var? at hv7
  rw [hg7] at hv7
  simp only [Option.bind_some] at hv7
  by_cases hlt : 7 < W.heap.size
  · omega
  · rw [Array.getElem?_eq_none (by omega)] at hv7
    simp at hv7
end Go.Proofs.YtcaeppncippknaaGreatDoor
