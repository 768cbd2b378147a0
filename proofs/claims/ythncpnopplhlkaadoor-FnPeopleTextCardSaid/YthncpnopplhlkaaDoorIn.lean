/-
  Contracts: spec.l6In, spec.l32Power.
-/
import Derived.Test.YthncpnopplhlkaaDoorBase
namespace Go.Proofs.YthncpnopplhlkaaDoor
open Go.RowKit

theorem in_any (n a b : Int) (w : World) : Calls Tryd.prog 62 #[.int .i64 n, .int .i64 a, .int .i64 b] w fun e w' => e = .returned (.bool (decide (a ≤ n ∧ n ≤ b))) ∧ w = w' := by
  by_cases h1 : a ≤ n
  all_goals by_cases h2 : n ≤ b
  all_goals
    go_enter Tryd.func62, Tryd.ntmps62
    go_wp2
    all_goals go_ret
    all_goals exact ⟨ret_bool (by simp [h1, h2]), rfl⟩

theorem in_yes (n a b : Int) (w : World) (h1 : a ≤ n) (h2 : n ≤ b) : Calls Tryd.prog 62 #[.int .i64 n, .int .i64 a, .int .i64 b] w fun e w' => e = .returned (.bool true) ∧ w = w' :=
  (in_any n a b w).mono fun e w' ⟨he, hw⟩ => ⟨by rw [he]; exact ret_bool (by simp [h1, h2]), hw⟩
theorem in_no (n a b : Int) (w : World) (h : ¬ (a ≤ n ∧ n ≤ b)) : Calls Tryd.prog 62 #[.int .i64 n, .int .i64 a, .int .i64 b] w fun e w' => e = .returned (.bool false) ∧ w = w' :=
  (in_any n a b w).mono fun e w' ⟨he, hw⟩ => ⟨by rw [he]; exact ret_bool (by simpa using h), hw⟩
end Go.Proofs.YthncpnopplhlkaaDoor
