/-
  From the row's condition on what the library's tables hold, to what the walks ask.
-/
import Derived.Test.YtgnmfbgoacfjeaaDoorItoa
import Derived.Lib.LaidTab
import Derived.Stop.LaidErr
import Derived.MakeChecks
import Derived.LaidHandle
namespace Go.Proofs.YtgnmfbgoacfjeaaDoor
open Go.RowKit

theorem pow_data : (Rows.laid_internal_strconv_uint64pow10 : DataW Unit) = Lib.tabData .u64 Lib.pow10Tab := by kernel_rfl
theorem pow_of_laid {W : World} (h : laidMetH Tryd.prog [("math/bits.deBruijn32tab", Rows.laid_math_bits_deBruijn32tab), ("math/bits.deBruijn64tab", Rows.laid_math_bits_deBruijn64tab), ("internal/strconv.uint64pow10", Rows.laid_internal_strconv_uint64pow10)] W) : PowTab W := by
  rw [MakeChecks.laidMetH_plain _ _ _ (by kernel_rfl)] at h
  have h2 := (laidMet.tail (laidMet.tail h))
  rw [pow_data] at h2
  exact Lib.tabIs_of_head gpow (by kernel_rfl) Tryd.underlying109 Tryd.underlying102 (by kernel_rfl) (by kernel_rfl) h2
end Go.Proofs.YtgnmfbgoacfjeaaDoor
