/-
  Contract: strconv.Itoa at numbers that are not negative; the table of powers that it reads.
-/
import Derived.Test.YthncpnopplhlkaaDoorShelf
import Derived.Test.YthncpnopplhlkaaDoorBase
import Derived.Test.YthncpnopplhlkaaDoorTextMath
import Derived.Lib.SmallJoins
import Derived.Lib.AppendIntMem
namespace Go.Proofs.YthncpnopplhlkaaDoor
open Go.RowKit
open Go.TextMath (word)

/-- The library's table of powers of ten reads as it was laid. -/
def PowTab (w : World) : Prop := Lib.TabIs Tryd.prog w "internal/strconv.uint64pow10" .u64 Lib.pow10Tab
theorem gpow : Tryd.prog.globalNamed "internal/strconv.uint64pow10" = some 5 := by kernel_rfl
theorem PowTab.keep {w w' : World} {B : Nat} (h : PowTab w) (hb : Below B w w') (hB : w.heap.size ≤ B) : PowTab w' := Go.Joins.tab_stays gpow h hb hB

/-- A number's word, as a string. -/
def wd (n : Int) : ByteArray := ⟨(word n).toArray⟩
theorem wd_list (n : Int) : (wd n).data.toList = word n := by simp [wd]

theorem itoaI (n : Int) (w : World) (h0 : 0 ≤ n) (h1 : n ≤ 1000000) (ht : PowTab w) :
    Calls Tryd.prog 51 #[.int .i64 n] w fun e w' => e = .returned (.string (wd n)) ∧ Below w.heap.size w w' := by
  refine (Tryd.strconv_Itoa n (by omega) (by omega) w ht).mono fun e w' ⟨he, k, os, hw⟩ => ⟨?_, ?_⟩
  · rw [he]
    have : Lib.itoa n = word n := by unfold Lib.itoa word; rw [if_neg (by omega)]
    rw [this]; rfl
  · rw [hw]; exact Lib.below_grow _ _ (Nat.le_refl _) k os
end Go.Proofs.YthncpnopplhlkaaDoor
