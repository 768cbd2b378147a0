/-
  Contract: spec.l33Power.
-/
import Derived.Test.YtjglikccikeejabPow
namespace Go.Proofs.Ytjglikccikeejab
open Go.RowKit

theorem power2_any (n : Int) (w : World) (hn : 0 ≤ n) (hn2 : n ≤ 62) :
    Calls Try.prog 35 #[.int .i64 n] w fun e w' => e = .returned (.int .i64 (2 ^ n.toNat)) ∧ w = w' := by
  go_enter Try.func35, Try.ntmps35
  go_wp2_with fail
  refine (power_any 2 n _ (by omega) hn hn2 (two_le (by omega))).mono ?_
  rintro e w' ⟨rfl, rfl⟩
  go_wp2
  go_ret
  exact ⟨rfl, rfl⟩

end Go.Proofs.Ytjglikccikeejab
