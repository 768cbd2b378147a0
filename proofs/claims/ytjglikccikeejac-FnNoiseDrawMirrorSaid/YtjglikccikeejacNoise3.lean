/-
  Contracts: the reference's weights, sums and draws.
-/
import Derived.Test.YtjglikccikeejacNoise2
namespace Go.Proofs.Ytjglikccikeejac
open Go.RowKit

theorem okS_yes (n a : Int) (w : World) (h1 : 1 ≤ n) (h2 : n ≤ 12) (h3 : 2 ≤ a) (h4 : a ≤ 5) :
    Calls Try.prog 19 #[.int .i64 n, .int .i64 a] w fun e w' => e = .returned (.bool true) ∧ w = w' := by
  go_enter Try.func19, Try.ntmps19
  go_wp2_with fail
  refine (in_yes _ _ _ _ h1 h2).mono ?_
  rintro e w' ⟨rfl, rfl⟩
  go_wp2_with fail
  refine (in_yes _ _ _ _ h3 h4).mono ?_
  rintro e w' ⟨rfl, rfl⟩
  go_wp2_with fail
  go_ret
  exact ⟨rfl, rfl⟩

theorem okS_no (n a : Int) (w : World) (h : ¬ (1 ≤ n ∧ n ≤ 12 ∧ 2 ≤ a ∧ a ≤ 5)) :
    Calls Try.prog 19 #[.int .i64 n, .int .i64 a] w fun e w' => e = .returned (.bool false) ∧ w = w' := by
  by_cases h1 : 1 ≤ n ∧ n ≤ 12
  · go_enter Try.func19, Try.ntmps19
    go_wp2_with fail
    refine (in_yes _ _ _ _ h1.1 h1.2).mono ?_
    rintro e w' ⟨rfl, rfl⟩
    go_wp2_with fail
    refine (in_no _ _ _ _ (fun h2 => h ⟨h1.1, h1.2, h2.1, h2.2⟩)).mono ?_
    rintro e w' ⟨rfl, rfl⟩
    go_wp2_with fail
    go_ret
    exact ⟨rfl, rfl⟩
  · go_enter Try.func19, Try.ntmps19
    go_wp2_with fail
    refine (in_no _ _ _ _ h1).mono ?_
    rintro e w' ⟨rfl, rfl⟩
    go_wp2_with fail
    go_ret
    exact ⟨rfl, rfl⟩

theorem mulb {P : Int} {a n k : Nat} {f : Int} (h3 : 2 ≤ a) (h4 : a ≤ 5) (h2 : n ≤ 12) (hk : k ≤ n) (hf0 : 0 ≤ f) (hf : f ≤ 5) (hP : (a : Int) ^ k = P) : wrap64 (P * f) = f * (a : Int) ^ k := by
  obtain ⟨b1, b2⟩ := pow_small h3 h4 hk h2
  rw [hP] at b1 b2 ⊢
  have hf' : f = 0 ∨ f = 1 ∨ f = 2 ∨ f = 3 ∨ f = 4 ∨ f = 5 := by omega
  rw [Int.mul_comm P f]
  rcases hf' with h | h | h | h | h | h <;> rw [h] <;> exact IntWalk.wrap64_in _ ⟨by omega, by omega⟩

set_option maxHeartbeats 1000000 in
theorem weightS (n a x y : Nat) (w : World) (h1 : 1 ≤ n) (h2 : n ≤ 12) (h3 : 2 ≤ a) (h4 : a ≤ 5) (h5 : x ≤ n) (h6 : y ≤ n) :
    Calls Try.prog 17 #[.int .i64 n, .int .i64 a, .int .i64 x, .int .i64 y] w fun e w' => e = .returned (.int .i64 (wN n a x y)) ∧ w = w' := by
  have e : ∀ d : Int, d = (n - dist x y : Nat) → ∃ P : Int, (a : Int) ^ (n - dist x y) = P ∧ ∀ w : World, Calls Try.prog 20 #[.int .i64 a, .int .i64 d] w fun e w' => e = .returned (.int .i64 P) ∧ w = w' := by
    intro d hd
    refine ⟨_, rfl, fun w => ?_⟩
    obtain ⟨b1, b2⟩ := pow_small h3 h4 (Nat.sub_le n (dist x y)) h2
    have c := power_any (a : Int) d w (by omega) (by omega) (by omega) (by rw [hd, Int.toNat_natCast]; omega)
    rw [hd, Int.toNat_natCast] at c
    rw [hd]
    exact c
  by_cases hxy : x < y
  · obtain ⟨P, hP, hc⟩ := e ((n : Int) - ((y : Int) - (x : Int))) (by unfold dist; rw [if_pos (by omega)]; omega)
    have HC := Lib.hid hc
    have M1 := Lib.hid (mulb (f := (a : Int)) h3 h4 h2 (Nat.sub_le n (dist x y)) (by omega) (by omega) hP)
    have M2 := Lib.hid (mulb (f := (a : Int) - 1) h3 h4 h2 (Nat.sub_le n (dist x y)) (by omega) (by omega) hP)
    clear hc e hP
    by_cases hb0' : y = 0
    · have hb : y = 0 ∨ y = n := .inl hb0'
      have hb0 : ((y : Int) == 0) = true := by rw [beq_iff_eq]; omega
      clear hb0'
      go_enter Try.func17, Try.ntmps17
      go_wp2_with fail
      refine (okS_yes _ _ _ (by omega) (by omega) (by omega) (by omega)).mono ?_
      rintro e w' ⟨rfl, rfl⟩
      go_wp2_with fail
      refine (in_yes _ _ _ _ (by omega) (by omega)).mono ?_
      rintro e w' ⟨rfl, rfl⟩
      go_wp2_with fail
      refine (in_yes _ _ _ _ (by omega) (by omega)).mono ?_
      rintro e w' ⟨rfl, rfl⟩
      go_wp2_with fail
      refine (HC.out _).mono ?_
      rintro e w' ⟨rfl, rfl⟩
      go_wp2_with fail
      go_ret
      exact ⟨ret_int (by rw [M1.out]; unfold wN; rw [if_pos hb]), rfl⟩
    by_cases hb1' : y = n
    · have hb : y = 0 ∨ y = n := .inr hb1'
      have hb0 : ((y : Int) == 0) = false := by rw [beq_eq_false_iff_ne]; omega
      have hb1 : ((y : Int) == (n : Int)) = true := by rw [beq_iff_eq]; omega
      clear hb1'
      go_enter Try.func17, Try.ntmps17
      go_wp2_with fail
      refine (okS_yes _ _ _ (by omega) (by omega) (by omega) (by omega)).mono ?_
      rintro e w' ⟨rfl, rfl⟩
      go_wp2_with fail
      refine (in_yes _ _ _ _ (by omega) (by omega)).mono ?_
      rintro e w' ⟨rfl, rfl⟩
      go_wp2_with fail
      refine (in_yes _ _ _ _ (by omega) (by omega)).mono ?_
      rintro e w' ⟨rfl, rfl⟩
      go_wp2_with fail
      refine (HC.out _).mono ?_
      rintro e w' ⟨rfl, rfl⟩
      go_wp2_with fail
      go_ret
      exact ⟨ret_int (by rw [M1.out]; unfold wN; rw [if_pos hb]), rfl⟩
    · have hb : ¬ (y = 0 ∨ y = n) := by omega
      have hb0 : ((y : Int) == 0) = false := by rw [beq_eq_false_iff_ne]; omega
      have hb1 : ((y : Int) == (n : Int)) = false := by rw [beq_eq_false_iff_ne]; omega
      go_enter Try.func17, Try.ntmps17
      go_wp2_with fail
      refine (okS_yes _ _ _ (by omega) (by omega) (by omega) (by omega)).mono ?_
      rintro e w' ⟨rfl, rfl⟩
      go_wp2_with fail
      refine (in_yes _ _ _ _ (by omega) (by omega)).mono ?_
      rintro e w' ⟨rfl, rfl⟩
      go_wp2_with fail
      refine (in_yes _ _ _ _ (by omega) (by omega)).mono ?_
      rintro e w' ⟨rfl, rfl⟩
      go_wp2_with fail
      refine (HC.out _).mono ?_
      rintro e w' ⟨rfl, rfl⟩
      go_wp2_with fail
      go_ret
      exact ⟨ret_int (by rw [M2.out]; unfold wN; rw [if_neg hb]), rfl⟩
  · obtain ⟨P, hP, hc⟩ := e ((n : Int) - ((x : Int) - (y : Int))) (by unfold dist; split <;> omega)
    have HC := Lib.hid hc
    have M1 := Lib.hid (mulb (f := (a : Int)) h3 h4 h2 (Nat.sub_le n (dist x y)) (by omega) (by omega) hP)
    have M2 := Lib.hid (mulb (f := (a : Int) - 1) h3 h4 h2 (Nat.sub_le n (dist x y)) (by omega) (by omega) hP)
    clear hc e hP
    by_cases hb0' : y = 0
    · have hb : y = 0 ∨ y = n := .inl hb0'
      have hb0 : ((y : Int) == 0) = true := by rw [beq_iff_eq]; omega
      clear hb0'
      go_enter Try.func17, Try.ntmps17
      go_wp2_with fail
      refine (okS_yes _ _ _ (by omega) (by omega) (by omega) (by omega)).mono ?_
      rintro e w' ⟨rfl, rfl⟩
      go_wp2_with fail
      refine (in_yes _ _ _ _ (by omega) (by omega)).mono ?_
      rintro e w' ⟨rfl, rfl⟩
      go_wp2_with fail
      refine (in_yes _ _ _ _ (by omega) (by omega)).mono ?_
      rintro e w' ⟨rfl, rfl⟩
      go_wp2_with fail
      refine (HC.out _).mono ?_
      rintro e w' ⟨rfl, rfl⟩
      go_wp2_with fail
      go_ret
      exact ⟨ret_int (by rw [M1.out]; unfold wN; rw [if_pos hb]), rfl⟩
    by_cases hb1' : y = n
    · have hb : y = 0 ∨ y = n := .inr hb1'
      have hb0 : ((y : Int) == 0) = false := by rw [beq_eq_false_iff_ne]; omega
      have hb1 : ((y : Int) == (n : Int)) = true := by rw [beq_iff_eq]; omega
      clear hb1'
      go_enter Try.func17, Try.ntmps17
      go_wp2_with fail
      refine (okS_yes _ _ _ (by omega) (by omega) (by omega) (by omega)).mono ?_
      rintro e w' ⟨rfl, rfl⟩
      go_wp2_with fail
      refine (in_yes _ _ _ _ (by omega) (by omega)).mono ?_
      rintro e w' ⟨rfl, rfl⟩
      go_wp2_with fail
      refine (in_yes _ _ _ _ (by omega) (by omega)).mono ?_
      rintro e w' ⟨rfl, rfl⟩
      go_wp2_with fail
      refine (HC.out _).mono ?_
      rintro e w' ⟨rfl, rfl⟩
      go_wp2_with fail
      go_ret
      exact ⟨ret_int (by rw [M1.out]; unfold wN; rw [if_pos hb]), rfl⟩
    · have hb : ¬ (y = 0 ∨ y = n) := by omega
      have hb0 : ((y : Int) == 0) = false := by rw [beq_eq_false_iff_ne]; omega
      have hb1 : ((y : Int) == (n : Int)) = false := by rw [beq_eq_false_iff_ne]; omega
      go_enter Try.func17, Try.ntmps17
      go_wp2_with fail
      refine (okS_yes _ _ _ (by omega) (by omega) (by omega) (by omega)).mono ?_
      rintro e w' ⟨rfl, rfl⟩
      go_wp2_with fail
      refine (in_yes _ _ _ _ (by omega) (by omega)).mono ?_
      rintro e w' ⟨rfl, rfl⟩
      go_wp2_with fail
      refine (in_yes _ _ _ _ (by omega) (by omega)).mono ?_
      rintro e w' ⟨rfl, rfl⟩
      go_wp2_with fail
      refine (HC.out _).mono ?_
      rintro e w' ⟨rfl, rfl⟩
      go_wp2_with fail
      go_ret
      exact ⟨ret_int (by rw [M2.out]; unfold wN; rw [if_neg hb]), rfl⟩

set_option maxHeartbeats 400000 in
theorem totalS (n a x : Nat) (w : World) (h1 : 1 ≤ n) (h2 : n ≤ 12) (h3 : 2 ≤ a) (h4 : a ≤ 5) (h5 : x ≤ n) :
    Calls Try.prog 14 #[.int .i64 n, .int .i64 a, .int .i64 x] w fun e w' => e = .returned (.int .i64 (cum n a x (n + 1))) ∧ w = w' := by
  go_enter Try.func14, Try.ntmps14
  go_wp2_with fail
  refine (okS_yes _ _ _ (by omega) (by omega) (by omega) (by omega)).mono ?_
  rintro e w' ⟨rfl, rfl⟩
  go_wp2_with fail
  refine (in_yes _ _ _ _ (by omega) (by omega)).mono ?_
  rintro e w' ⟨rfl, rfl⟩
  go_wp2_with fail
  go_loopw [7, 8] (fun s i wr => wr = w ∧ ∃ k : Nat, k ≤ n + 1 ∧ i = .int .i64 k ∧ s = .int .i64 (cum n a x k)) (fun _ i _ => n + 1 - (intOf i).toNat)
  case atStart => exact ⟨rfl, 0, Nat.zero_le _, rfl, rfl⟩
  case round =>
    obtain ⟨rfl, k, hk, rfl, rfl⟩ := hrel
    by_cases hlt : k ≤ n
    · have hb := cum_le (n := n) (x := x) h3 h4 h2 k
      have hb0 := cum_nonneg (n := n) (x := x) h3 h4 h2 k
      obtain ⟨hw1, hw2⟩ := wN_bound (x := x) (y := k) h3 h4 h2
      go_wp2_with fail
      refine (weightS n a x k _ h1 h2 h3 h4 h5 (by omega)).mono ?_
      rintro e w' ⟨rfl, rfl⟩
      go_wp2_with fail
      go_roundw
      case rel => exact ⟨trivial, k + 1, by omega, by go_num, rfl⟩
      case measure => simp [intOf]; omega
    · go_wp2_with fail
      go_ret
      exact ⟨ret_int (by rw [show k = n + 1 from by omega]), rfl⟩

theorem totalS_no (n a x : Int) (w : World) (h : nvB n a x = false) :
    Calls Try.prog 14 #[.int .i64 n, .int .i64 a, .int .i64 x] w fun e w' => e = .returned (.int .i64 (-1)) ∧ w = w' := by
  have h : ¬ (1 ≤ n ∧ n ≤ 12 ∧ 2 ≤ a ∧ a ≤ 5 ∧ 0 ≤ x ∧ x ≤ n) := by simpa [nvB] using h
  by_cases h1 : 1 ≤ n ∧ n ≤ 12 ∧ 2 ≤ a ∧ a ≤ 5
  · go_enter Try.func14, Try.ntmps14
    go_wp2_with fail
    refine (okS_yes _ _ _ h1.1 h1.2.1 h1.2.2.1 h1.2.2.2).mono ?_
    rintro e w' ⟨rfl, rfl⟩
    go_wp2_with fail
    refine (in_no _ _ _ _ (by omega)).mono ?_
    rintro e w' ⟨rfl, rfl⟩
    go_wp2_with fail
    go_ret
    exact ⟨rfl, rfl⟩
  · go_enter Try.func14, Try.ntmps14
    go_wp2_with fail
    refine (okS_no _ _ _ h1).mono ?_
    rintro e w' ⟨rfl, rfl⟩
    go_wp2_with fail
    go_ret
    exact ⟨rfl, rfl⟩

set_option maxHeartbeats 400000 in
theorem drawS (n a x : Nat) (lot : Int) (w : World) (h1 : 1 ≤ n) (h2 : n ≤ 12) (h3 : 2 ≤ a) (h4 : a ≤ 5) (h5 : x ≤ n) (hl0 : 0 ≤ lot) (hl1 : lot < cum n a x (n + 1)) :
    Calls Try.prog 9 #[.int .i64 n, .int .i64 a, .int .i64 x, .int .i64 lot] w (DrawnY n a x lot w) := by
  have hbt := cum_le (n := n) (x := x) h3 h4 h2 (n + 1)
  go_enter Try.func9, Try.ntmps9
  go_wp2_with fail
  refine (totalS n a x _ h1 h2 h3 h4 h5).mono ?_
  rintro e w' ⟨rfl, rfl⟩
  go_wp2_with fail
  refine (in_yes _ _ _ _ (by omega) (by omega)).mono ?_
  rintro e w' ⟨rfl, rfl⟩
  go_wp2_with fail
  refine (weightS n a x 0 _ h1 h2 h3 h4 h5 (by omega)).mono ?_
  rintro e w' ⟨rfl, rfl⟩
  go_wp2_with fail
  go_loopw [9, 10] (fun y s wr => wr = w ∧ ∃ k : Nat, k ≤ n ∧ y = .int .i64 k ∧ s = .int .i64 (cum n a x (k + 1)) ∧ cum n a x k ≤ lot) (fun y _ _ => n - (intOf y).toNat)
  case atStart => exact ⟨rfl, 0, Nat.zero_le _, rfl, int_eq (by simp [cum]), by simp only [cum]; omega⟩
  case round =>
    obtain ⟨rfl, k, hk, rfl, rfl, hc⟩ := hrel
    have hb0 := cum_nonneg (n := n) (x := x) h3 h4 h2 (k + 1)
    have hb1 := cum_le (n := n) (x := x) h3 h4 h2 (k + 1)
    obtain ⟨hw1, hw2⟩ := wN_bound (x := x) (y := k + 1) h3 h4 h2
    by_cases hlt : cum n a x (k + 1) ≤ lot
    · have hkn : k < n := by
        rcases Nat.lt_or_ge k n with h | h
        · exact h
        · have : k = n := by omega
          subst this
          omega
      go_wp2_with fail
      refine (weightS n a x (k + 1) _ h1 h2 h3 h4 h5 (by omega)).mono ?_
      rintro e w' ⟨rfl, rfl⟩
      go_wp2_with fail
      go_roundw
      case rel => exact ⟨trivial, k + 1, by omega, by go_num, int_eq (by show _ = cum n a x (k + 1) + wN n a x (k + 1); rfl), hlt⟩
      case measure => simp [intOf]; omega
    · go_wp2_with fail
      go_ret
      exact ⟨k, ⟨hc, by omega, hk⟩, rfl, rfl⟩

theorem drawS_no (n a x lot : Int) (w : World) (h : nvB n a x = false) :
    Calls Try.prog 9 #[.int .i64 n, .int .i64 a, .int .i64 x, .int .i64 lot] w fun e w' => e = .returned (.int .i64 (-1)) ∧ w = w' := by
  go_enter Try.func9, Try.ntmps9
  go_wp2_with fail
  refine (totalS_no _ _ _ _ h).mono ?_
  rintro e w' ⟨rfl, rfl⟩
  go_wp2_with fail
  refine (in_no _ _ _ _ (by omega)).mono ?_
  rintro e w' ⟨rfl, rfl⟩
  go_wp2_with fail
  go_ret
  exact ⟨rfl, rfl⟩

theorem drawS_out (n a x : Nat) (lot : Int) (w : World) (h1 : 1 ≤ n) (h2 : n ≤ 12) (h3 : 2 ≤ a) (h4 : a ≤ 5) (h5 : x ≤ n) (hl : ¬ (0 ≤ lot ∧ lot < cum n a x (n + 1))) :
    Calls Try.prog 9 #[.int .i64 n, .int .i64 a, .int .i64 x, .int .i64 lot] w fun e w' => e = .returned (.int .i64 (-1)) ∧ w = w' := by
  have hb0 := cum_nonneg (n := n) (x := x) h3 h4 h2 (n + 1)
  have hbt := cum_le (n := n) (x := x) h3 h4 h2 (n + 1)
  go_enter Try.func9, Try.ntmps9
  go_wp2_with fail
  refine (totalS n a x _ h1 h2 h3 h4 h5).mono ?_
  rintro e w' ⟨rfl, rfl⟩
  go_wp2_with fail
  refine (in_no _ _ _ _ (by omega)).mono ?_
  rintro e w' ⟨rfl, rfl⟩
  go_wp2_with fail
  go_ret
  exact ⟨rfl, rfl⟩

end Go.Proofs.Ytjglikccikeejac
