/-
  Contracts: spec.l6In, spec.l32Power.
-/
import Derived.Test.YtjglikccikeejabBase
namespace Go.Proofs.Ytjglikccikeejab
open Go.RowKit

theorem in_any (n a b : Int) (w : World) : Calls Try.prog 34 #[.int .i64 n, .int .i64 a, .int .i64 b] w fun e w' => e = .returned (.bool (decide (a ≤ n ∧ n ≤ b))) ∧ w = w' := by
  by_cases h1 : a ≤ n
  all_goals by_cases h2 : n ≤ b
  all_goals
    go_enter Try.func34, Try.ntmps34
    go_wp2
    all_goals go_ret
    all_goals exact ⟨ret_bool (by simp [h1, h2]), rfl⟩

theorem in_yes (n a b : Int) (w : World) (h1 : a ≤ n) (h2 : n ≤ b) : Calls Try.prog 34 #[.int .i64 n, .int .i64 a, .int .i64 b] w fun e w' => e = .returned (.bool true) ∧ w = w' :=
  (in_any n a b w).mono fun e w' ⟨he, hw⟩ => ⟨by rw [he]; exact ret_bool (by simp [h1, h2]), hw⟩
theorem in_no (n a b : Int) (w : World) (h : ¬ (a ≤ n ∧ n ≤ b)) : Calls Try.prog 34 #[.int .i64 n, .int .i64 a, .int .i64 b] w fun e w' => e = .returned (.bool false) ∧ w = w' :=
  (in_any n a b w).mono fun e w' ⟨he, hw⟩ => ⟨by rw [he]; exact ret_bool (by simpa using h), hw⟩

theorem pow_le {a : Int} {k n : Nat} (ha : 1 ≤ a) (h : k ≤ n) : a ^ k ≤ a ^ n := by
  induction h with
  | refl => exact Int.le_refl _
  | @step m _ ih =>
    rw [Int.pow_succ]
    have h0 : 0 ≤ a ^ m := Int.pow_nonneg (by omega)
    have := Int.mul_le_mul_of_nonneg_left ha h0
    omega

/-- A power by multiplication. -/
theorem power_any (a : Int) (n : Int) (w : World) (ha : 1 ≤ a) (hn : 0 ≤ n) (hn2 : n ≤ 62) (hb : a ^ n.toNat ≤ 9223372036854775807) :
    Calls Try.prog 42 #[.int .i64 a, .int .i64 n] w fun e w' => e = .returned (.int .i64 (a ^ n.toNat)) ∧ w = w' := by
  obtain ⟨m, rfl⟩ := Int.eq_ofNat_of_zero_le hn
  simp only [Int.toNat_natCast] at *
  have hm : m ≤ 62 := by omega
  clear hn2
  go_enter Try.func42, Try.ntmps42
  go_wp2
  go_loop [5, 6] (fun o i => ∃ k : Nat, k ≤ m ∧ i = .int .i64 k ∧ o = .int .i64 (a ^ k)) (fun _ i => m - (intOf i).toNat)
  case atStart => exact ⟨0, Nat.zero_le _, rfl, by simp⟩
  case round =>
    obtain ⟨k, hk, rfl, rfl⟩ := hrel
    by_cases hlt : k < m
    · have h1 : a ^ (k + 1) ≤ 9223372036854775807 := Int.le_trans (pow_le ha (by omega)) hb
      have h2 : a ^ k * a = a ^ (k + 1) := (Int.pow_succ a k).symm
      have h0 : 0 ≤ a ^ (k + 1) := Int.pow_nonneg (by omega)
      have H : Hid (wrap64 (a ^ k * a) = a ^ (k + 1)) := by show wrap64 (a ^ k * a) = a ^ (k + 1); rw [h2]; exact IntWalk.wrap64_in _ ⟨by omega, by omega⟩
      clear h0 h1 h2 hb
      go_wp2
      go_round
      case rel => exact ⟨k + 1, by omega, by go_num, int_eq H.out⟩
      case measure => simp [intOf]; omega
    · go_wp2
      go_ret
      have : k = m := by omega
      subst this
      exact ⟨rfl, rfl⟩

theorem two_le {n : Nat} (h : n ≤ 62) : (2 : Int) ^ n ≤ 9223372036854775807 := Int.le_trans (pow_le (by omega) h) (by decide)

end Go.Proofs.Ytjglikccikeejab
