/-
  From the row's condition on what the library's variables hold, to what the walks ask: the table of powers, the two errors.
-/
import Derived.Test.YthncpnopplhlkaaDoorItoa
import Derived.Test.YthncpnopplhlkaaDoorErrL
import Derived.Lib.LaidTab
import Derived.Stop.LaidErr
import Derived.MakeChecks
import Derived.LaidHandle
namespace Go.Proofs.YthncpnopplhlkaaDoor
open Go.RowKit Go.ChangeShapes

theorem pow_data : (Rows.laid_internal_strconv_uint64pow10 : DataW Unit) = Lib.tabData .u64 Lib.pow10Tab := by kernel_rfl
theorem starE : "*" ++ "errors.errorString" = "*errors.errorString" := by decide
theorem rowErr (u : TypeId) (h : Tryd.prog.typeName? 3 u = some "*errors.errorString") : u = 130 :=
  typeName_ptr_named (nm := "errors.errorString") (by rw [starE]; kernel_rfl) (by kernel_rfl) (by decide) u (by rw [starE]; exact h)
theorem gSyn : Tryd.prog.globalNamed "strconv.ErrSyntax" = some 3 := by kernel_rfl
theorem gRng : Tryd.prog.globalNamed "strconv.ErrRange" = some 4 := by kernel_rfl
theorem gSynT : (Tryd.prog.globals[3]?).map (·.type) = some 76 := by kernel_rfl
theorem gRngT : (Tryd.prog.globals[4]?).map (·.type) = some 76 := by kernel_rfl
theorem cellsE : Tryd.prog.cellsOf 132 = 1 := by kernel_rfl
theorem cellsStr : Tryd.prog.cellsOf 9 = 1 := by kernel_rfl

/-- What the walks ask of the library's variables. -/
def LibL (w : World) : Prop := PowTab w ∧ ErrL w
theorem LibL.keep {w w' : World} (h : LibL w) {B : Nat} (hb : Below B w w') (hB : w.heap.size ≤ B) : LibL w' := ⟨h.1.keep hb hB, h.2.keep hb hB⟩
theorem lib_of_laid {W : World} (h : laidMetH Tryd.prog [("math/bits.deBruijn32tab", Rows.laid_math_bits_deBruijn32tab), ("math/bits.deBruijn64tab", Rows.laid_math_bits_deBruijn64tab), ("internal/strconv.uint64pow10", Rows.laid_internal_strconv_uint64pow10), ("unicode/utf8.acceptRanges", Rows.laid_unicode_utf8_acceptRanges), ("strconv.ErrRange", Rows.laid_strconv_ErrRange), ("strconv.ErrSyntax", Rows.laid_strconv_ErrSyntax), ("unicode/utf8.first", Rows.laid_unicode_utf8_first)] W) : LibL W := by
  rw [MakeChecks.laidMetH_plain _ _ _ (by kernel_rfl)] at h
  have h2 := h.tail.tail
  have h3 := h2.tail.tail
  have h4 := h3.tail
  rw [pow_data] at h2
  obtain ⟨a1, s1, hv1, _, _, _⟩ := laid_sentinel h3 gRng gRngT Tryd.underlying76 rowErr Tryd.underlying130 Tryd.underlying132 rfl rfl Tryd.underlying9 cellsE cellsStr
  obtain ⟨a2, s2, hv2, _, _, _⟩ := laid_sentinel h4 gSyn gSynT Tryd.underlying76 rowErr Tryd.underlying130 Tryd.underlying132 rfl rfl Tryd.underlying9 cellsE cellsStr
  refine ⟨Lib.tabIs_of_head gpow (by kernel_rfl) Tryd.underlying123 Tryd.underlying104 (by kernel_rfl) (by kernel_rfl) h2, ⟨130, .pointer (some a2), ?_⟩, 130, .pointer (some a1), ?_⟩
  · exact (World.var?_cell gSyn hv2 0).trans rfl
  · exact (World.var?_cell gRng hv1 0).trans rfl
end Go.Proofs.YthncpnopplhlkaaDoor
