/-
  Contract: impl.AskTells at valid questions that tell a person.
-/
import Derived.Test.YtjglikccikeejabAskV
import Derived.Test.YtjglikccikeejabAskMath
namespace Go.Proofs.Ytjglikccikeejab
open Go.RowKit
open Go.AskMath (rnk tel tld)

theorem askTellsV (m i : Nat) (ao : Option Addr) (b off cap : Nat) (xs : List Int) (w : World) (hr : Row .i64 w ao b off xs) (hn : ao = none → cap = 0) (hv : vldB m xs = true) (hi : i < m) (ht : tel m xs i = true) :
    Calls Try.prog 16 #[.int .i64 m, .slice ao xs.length cap, .int .i64 i] w fun e w' => e = .returned (.bool true) ∧ Below w.heap.size w w' := by
  have h := askTellsI m i ao b off cap xs w hr hn (by have := (vld_iff.1 hv).2.2.1; omega)
  rw [hv, decide_eq_true (show 0 ≤ (i : Int) ∧ (i : Int) < m by omega)] at h
  simp only [Int.toNat_natCast, ht, Bool.and_self] at h
  exact h

theorem tel_nil {m i : Nat} (hm : m ≤ 6) (hi : i < m) : tel m [] i ≠ true := fun h => by
  have h1 := Go.AskMath.rnk_tel h
  have h2 := unit_range hm hi
  rw [Int.toNat_natCast] at h2
  have h3 := Go.AskMath.rnk_one (n := m) h2.1 h2.2
  rw [Go.AskMath.rnk_nil] at h1
  have h4 : rnk m [(2 : Int) ^ i] = 0 := h1
  omega

end Go.Proofs.Ytjglikccikeejab
