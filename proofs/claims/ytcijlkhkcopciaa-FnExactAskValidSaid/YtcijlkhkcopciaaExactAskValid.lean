/-
  The walk of laws.FnExactAskValid.
-/
import Derived.Test.YtcijlkhkcopciaaValid
import Derived.Test.YtcijlkhkcopciaaInts
namespace Go.Proofs.Ytcijlkhkcopciaa
open Go.RowKit

set_option maxHeartbeats 400000 in
theorem walkExactAskValid (n : Int) (ao : Option Addr) (b off cap : Nat) (xs : List Int) (w : World) (_hn : (Lit.int .i64 n).wf = true) (hr : Row .i64 w ao b off xs) (hl : xs.length ≤ 9223372036854775807) (_hw : ∀ i, i < xs.length → (Lit.int .i64 (xs.getD i 0)).wf = true) :
    Calls Try.prog 3 #[.int .i64 n, .slice ao xs.length cap] w fun e w' => e = .returned (.bool true) ∧ Below w.heap.size w w' := by
  by_cases h20 : xs.length ≤ 1048576
  · go_enter Try.func3, Try.ntmps3
    go_wp2_with fail
    refine (toInts_any ao b off cap xs w hr (by omega)).mono ?_
    rintro e w1 ⟨rfl, hb1, hi1, hs1⟩
    have hr1 := hr.keep hb1 (Nat.le_refl _)
    go_wp2_with fail
    refine (validS n _ w.heap.size 0 xs.length xs w1 (Row.of_rowIs hi1) hl).mono ?_
    rintro e w2 ⟨rfl, q, rfl⟩
    go_wp2_with fail
    refine (toInts_any ao b off cap xs _ (hr1.drewN q) (by omega)).mono ?_
    rintro e w2 ⟨rfl, hb2, hi2, hs2⟩
    have hr2 := (hr1.drewN q).keep hb2 (Nat.le_refl _)
    have hz : (w1.drewN q).heap.size = w.heap.size + 1 := hs1
    rw [hz] at hb2 hi2 hs2
    have hbb := (below_drewN hb1 q).trans (hb2.mono (by omega))
    go_wp2_with fail
    refine (validI n _ _ 0 xs.length xs _ (Row.of_rowIs hi2) hl).mono ?_
    rintro e w3 ⟨rfl, rfl⟩
    go_wp2_with fail
    refine (toInts_any ao b off cap xs _ hr2 (by omega)).mono ?_
    rintro e w3 ⟨rfl, hb3, hi3, hs3⟩
    rw [hs2] at hb3 hi3 hs3
    have hi2' := hi2.of_block (hb3.block (w.heap.size + 1) (by omega))
    go_wp2_with fail
    refine (eqInts_yes _ _ (w.heap.size + 1) 0 xs.length _ 0 xs.length xs w3 (Row.of_rowIs hi2') (Row.of_rowIs hi3) hl).mono ?_
    rintro e w4 ⟨rfl, q2, rfl⟩
    go_wp2_with fail
    go_ret
    exact ⟨rfl, below_drewN (hbb.trans (hb3.mono (by omega))) _⟩
  · go_enter Try.func3, Try.ntmps3
    go_wp2_with fail
    go_ret
    exact ⟨rfl, Below.refl _ _⟩
end Go.Proofs.Ytcijlkhkcopciaa
