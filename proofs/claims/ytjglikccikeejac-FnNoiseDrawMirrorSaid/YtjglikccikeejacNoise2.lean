/-
  Contracts: the noise's sums and draws of the program; the reference's weights, sums and draws.
-/
import Derived.Test.YtjglikccikeejacNoise
namespace Go.Proofs.Ytjglikccikeejac
open Go.RowKit

set_option maxHeartbeats 400000 in
theorem totalI (n a x : Nat) (w : World) (h1 : 1 ≤ n) (h2 : n ≤ 12) (h3 : 2 ≤ a) (h4 : a ≤ 5) (h5 : x ≤ n) :
    Calls Try.prog 11 #[.int .i64 n, .int .i64 a, .int .i64 x] w fun e w' => e = .returned (.int .i64 (cum n a x (n + 1))) ∧ w = w' := by
  go_enter Try.func11, Try.ntmps11
  go_wp2_with fail
  refine (nvalid_yes _ _ _ _ (by omega) (by omega) (by omega) (by omega) (by omega) (by omega)).mono ?_
  rintro e w' ⟨rfl, rfl⟩
  go_wp2_with fail
  go_loopw [7, 16] (fun s i wr => wr = w ∧ ∃ k : Nat, k ≤ n + 1 ∧ i = .int .i64 k ∧ s = .int .i64 (cum n a x k)) (fun _ i _ => n + 1 - (intOf i).toNat)
  case atStart => exact ⟨rfl, 0, Nat.zero_le _, rfl, rfl⟩
  case round =>
    obtain ⟨rfl, k, hk, rfl, rfl⟩ := hrel
    by_cases hlt : k < n + 1
    · have hb := cum_le (n := n) (x := x) h3 h4 h2 k
      have hb0 := cum_nonneg (n := n) (x := x) h3 h4 h2 k
      obtain ⟨hw1, hw2⟩ := wN_bound (x := x) (y := k) h3 h4 h2
      go_wp2_with fail
      refine (weightI n a x k _ h1 h2 h3 h4 h5 (by omega)).mono ?_
      rintro e w' ⟨rfl, rfl⟩
      go_wp2_with fail
      go_roundw
      case rel => exact ⟨trivial, k + 1, by omega, by go_num, rfl⟩
      case measure => simp [intOf]; omega
    · go_wp2_with fail
      go_ret
      exact ⟨ret_int (by rw [show k = n + 1 from by omega]), rfl⟩

theorem totalI_no (n a x : Int) (w : World) (h : nvB n a x = false) :
    Calls Try.prog 11 #[.int .i64 n, .int .i64 a, .int .i64 x] w fun e w' => e = .returned (.int .i64 (-1)) ∧ w = w' := by
  go_enter Try.func11, Try.ntmps11
  go_wp2_with fail
  refine (nvalid_no _ _ _ _ h).mono ?_
  rintro e w' ⟨rfl, rfl⟩
  go_wp2_with fail
  go_ret
  exact ⟨rfl, rfl⟩

/-- What a draw gives. -/
def DrawnY (n a x : Nat) (lot : Int) (w : World) (e : Ending) (w' : World) : Prop := ∃ y : Nat, At n a x lot y ∧ e = .returned (.int .i64 y) ∧ w = w'

set_option maxHeartbeats 400000 in
theorem drawI (n a x : Nat) (lot : Int) (w : World) (h1 : 1 ≤ n) (h2 : n ≤ 12) (h3 : 2 ≤ a) (h4 : a ≤ 5) (h5 : x ≤ n) (hl0 : 0 ≤ lot) (hl1 : lot < cum n a x (n + 1)) :
    Calls Try.prog 8 #[.int .i64 n, .int .i64 a, .int .i64 x, .int .i64 lot] w (DrawnY n a x lot w) := by
  have hbt := cum_le (n := n) (x := x) h3 h4 h2 (n + 1)
  go_enter Try.func8, Try.ntmps8
  go_wp2_with fail
  refine (totalI n a x _ h1 h2 h3 h4 h5).mono ?_
  rintro e w' ⟨rfl, rfl⟩
  go_wp2_with fail
  go_loopw [3, 9] (fun l y wr => wr = w ∧ ∃ k : Nat, k ≤ n ∧ y = .int .i64 k ∧ l = .int .i64 (lot - cum n a x k) ∧ cum n a x k ≤ lot) (fun _ y _ => n - (intOf y).toNat)
  case atStart => exact ⟨rfl, 0, Nat.zero_le _, rfl, by simp [cum], by simp only [cum]; omega⟩
  case round =>
    obtain ⟨rfl, k, hk, rfl, rfl, hc⟩ := hrel
    have hb0 := cum_nonneg (n := n) (x := x) h3 h4 h2 k
    obtain ⟨hw1, hw2⟩ := wN_bound (x := x) (y := k) h3 h4 h2
    go_wp2_with fail
    refine (weightI n a x k _ h1 h2 h3 h4 h5 (by omega)).mono ?_
    rintro e w' ⟨rfl, rfl⟩
    by_cases hlt : wN n a x k ≤ lot - cum n a x k
    · go_wp2_with fail
      refine (weightI n a x k _ h1 h2 h3 h4 h5 (by omega)).mono ?_
      rintro e w' ⟨rfl, rfl⟩
      have hkn : k < n := by
        rcases Nat.lt_or_ge k n with h | h
        · exact h
        · have : k = n := by omega
          subst this
          simp only [cum] at hl1
          omega
      go_wp2_with fail
      go_roundw
      case rel => exact ⟨trivial, k + 1, by omega, by go_num, int_eq (by simp only [cum]; omega), by simp only [cum]; omega⟩
      case measure => simp [intOf]; omega
    · go_wp2_with fail
      go_ret
      exact ⟨k, ⟨hc, by simp only [cum]; omega, hk⟩, rfl, rfl⟩

theorem drawI_neg (n a x lot : Int) (w : World) (h : lot < 0) :
    Calls Try.prog 8 #[.int .i64 n, .int .i64 a, .int .i64 x, .int .i64 lot] w fun e w' => e = .returned (.int .i64 (-1)) ∧ w = w' := by
  go_enter Try.func8, Try.ntmps8
  go_wp2_with fail
  go_ret
  exact ⟨rfl, rfl⟩

theorem drawI_no (n a x lot : Int) (w : World) (h : nvB n a x = false) (h0 : 0 ≤ lot) :
    Calls Try.prog 8 #[.int .i64 n, .int .i64 a, .int .i64 x, .int .i64 lot] w fun e w' => e = .returned (.int .i64 (-1)) ∧ w = w' := by
  go_enter Try.func8, Try.ntmps8
  go_wp2_with fail
  refine (totalI_no _ _ _ _ h).mono ?_
  rintro e w' ⟨rfl, rfl⟩
  go_wp2_with fail
  go_ret
  exact ⟨rfl, rfl⟩

theorem drawI_great (n a x : Nat) (lot : Int) (w : World) (h1 : 1 ≤ n) (h2 : n ≤ 12) (h3 : 2 ≤ a) (h4 : a ≤ 5) (h5 : x ≤ n) (hl1 : cum n a x (n + 1) ≤ lot) :
    Calls Try.prog 8 #[.int .i64 n, .int .i64 a, .int .i64 x, .int .i64 lot] w fun e w' => e = .returned (.int .i64 (-1)) ∧ w = w' := by
  have hb0 := cum_nonneg (n := n) (x := x) h3 h4 h2 (n + 1)
  go_enter Try.func8, Try.ntmps8
  go_wp2_with fail
  refine (totalI n a x _ h1 h2 h3 h4 h5).mono ?_
  rintro e w' ⟨rfl, rfl⟩
  go_wp2_with fail
  go_ret
  exact ⟨rfl, rfl⟩

end Go.Proofs.Ytjglikccikeejac
