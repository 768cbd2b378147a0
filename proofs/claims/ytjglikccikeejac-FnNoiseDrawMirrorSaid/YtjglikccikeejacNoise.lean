/-
  Contracts: the noise's weights, sums and draws, both sides.
-/
import Derived.Test.YtjglikccikeejacPow
import Derived.Test.YtjglikccikeejacNoiseMath
namespace Go.Proofs.Ytjglikccikeejac
open Go.RowKit

/-- The numbers of a noise are in range. -/
def nvB (n a x : Int) : Bool := decide (1 ≤ n ∧ n ≤ 12 ∧ 2 ≤ a ∧ a ≤ 5 ∧ 0 ≤ x ∧ x ≤ n)

theorem nvalid_yes (n a x : Int) (w : World) (h1 : 1 ≤ n) (h2 : n ≤ 12) (h3 : 2 ≤ a) (h4 : a ≤ 5) (h5 : 0 ≤ x) (h6 : x ≤ n) :
    Calls Try.prog 18 #[.int .i64 n, .int .i64 a, .int .i64 x] w fun e w' => e = .returned (.bool true) ∧ w = w' := by
  go_enter Try.func18, Try.ntmps18
  go_wp2
  go_ret
  exact ⟨rfl, rfl⟩

set_option maxHeartbeats 400000 in
theorem nvalid_no (n a x : Int) (w : World) (h : nvB n a x = false) :
    Calls Try.prog 18 #[.int .i64 n, .int .i64 a, .int .i64 x] w fun e w' => e = .returned (.bool false) ∧ w = w' := by
  have h : ¬ (1 ≤ n ∧ n ≤ 12 ∧ 2 ≤ a ∧ a ≤ 5 ∧ 0 ≤ x ∧ x ≤ n) := by simpa [nvB] using h
  by_cases h1 : 1 ≤ n
  · by_cases h2 : n ≤ 12
    · by_cases h3 : 2 ≤ a
      · by_cases h4 : a ≤ 5
        · by_cases h5 : 0 ≤ x
          · have h6 : ¬ x ≤ n := fun h6 => h ⟨h1, h2, h3, h4, h5, h6⟩
            clear h
            go_enter Try.func18, Try.ntmps18
            go_wp2
            go_ret
            exact ⟨rfl, rfl⟩
          · clear h
            go_enter Try.func18, Try.ntmps18
            go_wp2
            go_ret
            exact ⟨rfl, rfl⟩
        · clear h
          go_enter Try.func18, Try.ntmps18
          go_wp2
          go_ret
          exact ⟨rfl, rfl⟩
      · clear h
        go_enter Try.func18, Try.ntmps18
        go_wp2
        go_ret
        exact ⟨rfl, rfl⟩
    · clear h
      go_enter Try.func18, Try.ntmps18
      go_wp2
      go_ret
      exact ⟨rfl, rfl⟩
  · clear h
    go_enter Try.func18, Try.ntmps18
    go_wp2
    go_ret
    exact ⟨rfl, rfl⟩

theorem mul_rule {f p : Int} {a n k : Nat} (h3 : 2 ≤ a) (h4 : a ≤ 5) (h2 : n ≤ 12) (hk : k + 1 ≤ n) (hf0 : 1 ≤ f) (hf : f ≤ 5) (hp : p = f * (a : Int) ^ k) : ∃ q : Int, wrap64 (p * (a : Int)) = q ∧ q = f * (a : Int) ^ (k + 1) := by
  obtain ⟨b1, b2⟩ := pow_small h3 h4 hk h2
  refine ⟨f * (a : Int) ^ (k + 1), ?_, rfl⟩
  have e : p * (a : Int) = f * (a : Int) ^ (k + 1) := by rw [hp, Int.pow_succ, Int.mul_assoc]
  rw [e]
  generalize (a : Int) ^ (k + 1) = r at *
  have hf' : f = 1 ∨ f = 2 ∨ f = 3 ∨ f = 4 ∨ f = 5 := by omega
  rcases hf' with h | h | h | h | h <;> rw [h] <;> exact IntWalk.wrap64_in _ ⟨by omega, by omega⟩

set_option maxHeartbeats 1000000 in
theorem weightI (n a x y : Nat) (w : World) (h1 : 1 ≤ n) (h2 : n ≤ 12) (h3 : 2 ≤ a) (h4 : a ≤ 5) (h5 : x ≤ n) (h6 : y ≤ n) :
    Calls Try.prog 10 #[.int .i64 n, .int .i64 a, .int .i64 x, .int .i64 y] w fun e w' => e = .returned (.int .i64 (wN n a x y)) ∧ w = w' := by
  have ha : (a : Int) - 1 = (a : Int) - 1 := rfl
  clear ha
  by_cases hb0' : y = 0
  · have hb0 : ((y : Int) == 0) = true := by rw [beq_iff_eq]; omega
    have hb : y = 0 ∨ y = n := .inl hb0'
    have Hb := Lib.hid hb0'
    clear hb0'
    go_enter Try.func10, Try.ntmps10
    go_wp2_with fail
    refine (nvalid_yes _ _ _ _ (by omega) (by omega) (by omega) (by omega) (by omega) (by omega)).mono ?_
    rintro e w' ⟨rfl, rfl⟩
    by_cases hxy : x ≤ y
    · skip
      have hd : Hid (dist x y = y - x) := by show dist x y = y - x; unfold dist; rw [if_pos hxy]
      go_wp2_with fail
      go_loop [9, 43] (fun p i => ∃ (k : Nat) (P : Int), k ≤ n - (y - x) ∧ i = .int .i64 k ∧ p = .int .i64 P ∧ Hid (P = (a : Int) * (a : Int) ^ k)) (fun _ i => n - (y - x) - (intOf i).toNat)
      case atStart => exact ⟨0, _, Nat.zero_le _, rfl, rfl, show _ = (a : Int) * (a : Int) ^ 0 by simp⟩
      case round =>
        obtain ⟨k, P, hk, rfl, rfl, hP⟩ := hrel
        by_cases hlt : k < n - (y - x)
        · obtain ⟨Q, hQ, hQ2⟩ := mul_rule h3 h4 h2 (show k + 1 ≤ n by omega) (show 1 ≤ (a : Int) by omega) (show (a : Int) ≤ 5 by omega) hP.out
          have HQ := Lib.hid hQ2
          clear hQ2
          go_wp2_with fail
          go_round
          case rel => exact ⟨k + 1, Q, by omega, by go_num, int_eq hQ, HQ.out⟩
          case measure => simp [intOf]; omega
        · go_wp2_with fail
          go_ret
          exact ⟨ret_int (by rw [hP.out]; unfold wN; rw [if_pos hb, hd.out, show k = n - (y - x) from by omega]), rfl⟩
    · skip
      have hd : Hid (dist x y = x - y) := by show dist x y = x - y; unfold dist; rw [if_neg hxy]
      go_wp2_with fail
      go_loop [9, 43] (fun p i => ∃ (k : Nat) (P : Int), k ≤ n - (x - y) ∧ i = .int .i64 k ∧ p = .int .i64 P ∧ Hid (P = (a : Int) * (a : Int) ^ k)) (fun _ i => n - (x - y) - (intOf i).toNat)
      case atStart => exact ⟨0, _, Nat.zero_le _, rfl, rfl, show _ = (a : Int) * (a : Int) ^ 0 by simp⟩
      case round =>
        obtain ⟨k, P, hk, rfl, rfl, hP⟩ := hrel
        by_cases hlt : k < n - (x - y)
        · obtain ⟨Q, hQ, hQ2⟩ := mul_rule h3 h4 h2 (show k + 1 ≤ n by omega) (show 1 ≤ (a : Int) by omega) (show (a : Int) ≤ 5 by omega) hP.out
          have HQ := Lib.hid hQ2
          clear hQ2
          go_wp2_with fail
          go_round
          case rel => exact ⟨k + 1, Q, by omega, by go_num, int_eq hQ, HQ.out⟩
          case measure => simp [intOf]; omega
        · go_wp2_with fail
          go_ret
          exact ⟨ret_int (by rw [hP.out]; unfold wN; rw [if_pos hb, hd.out, show k = n - (x - y) from by omega]), rfl⟩
  by_cases hb1' : y = n
  · have hb0 : ((y : Int) == 0) = false := by rw [beq_eq_false_iff_ne]; omega
    have hb1 : ((y : Int) == (n : Int)) = true := by rw [beq_iff_eq]; omega
    have hb : y = 0 ∨ y = n := .inr hb1'
    have Hb := Lib.hid hb1'
    clear hb1'
    go_enter Try.func10, Try.ntmps10
    go_wp2_with fail
    refine (nvalid_yes _ _ _ _ (by omega) (by omega) (by omega) (by omega) (by omega) (by omega)).mono ?_
    rintro e w' ⟨rfl, rfl⟩
    by_cases hxy : x ≤ y
    · skip
      have hd : Hid (dist x y = y - x) := by show dist x y = y - x; unfold dist; rw [if_pos hxy]
      go_wp2_with fail
      go_loop [9, 43] (fun p i => ∃ (k : Nat) (P : Int), k ≤ n - (y - x) ∧ i = .int .i64 k ∧ p = .int .i64 P ∧ Hid (P = (a : Int) * (a : Int) ^ k)) (fun _ i => n - (y - x) - (intOf i).toNat)
      case atStart => exact ⟨0, _, Nat.zero_le _, rfl, rfl, show _ = (a : Int) * (a : Int) ^ 0 by simp⟩
      case round =>
        obtain ⟨k, P, hk, rfl, rfl, hP⟩ := hrel
        by_cases hlt : k < n - (y - x)
        · obtain ⟨Q, hQ, hQ2⟩ := mul_rule h3 h4 h2 (show k + 1 ≤ n by omega) (show 1 ≤ (a : Int) by omega) (show (a : Int) ≤ 5 by omega) hP.out
          have HQ := Lib.hid hQ2
          clear hQ2
          go_wp2_with fail
          go_round
          case rel => exact ⟨k + 1, Q, by omega, by go_num, int_eq hQ, HQ.out⟩
          case measure => simp [intOf]; omega
        · go_wp2_with fail
          go_ret
          exact ⟨ret_int (by rw [hP.out]; unfold wN; rw [if_pos hb, hd.out, show k = n - (y - x) from by omega]), rfl⟩
    · exact absurd (by omega) hxy
  · have hb0 : ((y : Int) == 0) = false := by rw [beq_eq_false_iff_ne]; omega
    have hb1 : ((y : Int) == (n : Int)) = false := by rw [beq_eq_false_iff_ne]; omega
    have hb : ¬ (y = 0 ∨ y = n) := by omega
    go_enter Try.func10, Try.ntmps10
    go_wp2_with fail
    refine (nvalid_yes _ _ _ _ (by omega) (by omega) (by omega) (by omega) (by omega) (by omega)).mono ?_
    rintro e w' ⟨rfl, rfl⟩
    by_cases hxy : x ≤ y
    · skip
      have hd : Hid (dist x y = y - x) := by show dist x y = y - x; unfold dist; rw [if_pos hxy]
      go_wp2_with fail
      go_loop [9, 43] (fun p i => ∃ (k : Nat) (P : Int), k ≤ n - (y - x) ∧ i = .int .i64 k ∧ p = .int .i64 P ∧ Hid (P = ((a : Int) - 1) * (a : Int) ^ k)) (fun _ i => n - (y - x) - (intOf i).toNat)
      case atStart => exact ⟨0, _, Nat.zero_le _, rfl, rfl, show _ = ((a : Int) - 1) * (a : Int) ^ 0 by simp⟩
      case round =>
        obtain ⟨k, P, hk, rfl, rfl, hP⟩ := hrel
        by_cases hlt : k < n - (y - x)
        · obtain ⟨Q, hQ, hQ2⟩ := mul_rule h3 h4 h2 (show k + 1 ≤ n by omega) (show 1 ≤ ((a : Int) - 1) by omega) (show ((a : Int) - 1) ≤ 5 by omega) hP.out
          have HQ := Lib.hid hQ2
          clear hQ2
          go_wp2_with fail
          go_round
          case rel => exact ⟨k + 1, Q, by omega, by go_num, int_eq hQ, HQ.out⟩
          case measure => simp [intOf]; omega
        · go_wp2_with fail
          go_ret
          exact ⟨ret_int (by rw [hP.out]; unfold wN; rw [if_neg hb, hd.out, show k = n - (y - x) from by omega]), rfl⟩
    · skip
      have hd : Hid (dist x y = x - y) := by show dist x y = x - y; unfold dist; rw [if_neg hxy]
      go_wp2_with fail
      go_loop [9, 43] (fun p i => ∃ (k : Nat) (P : Int), k ≤ n - (x - y) ∧ i = .int .i64 k ∧ p = .int .i64 P ∧ Hid (P = ((a : Int) - 1) * (a : Int) ^ k)) (fun _ i => n - (x - y) - (intOf i).toNat)
      case atStart => exact ⟨0, _, Nat.zero_le _, rfl, rfl, show _ = ((a : Int) - 1) * (a : Int) ^ 0 by simp⟩
      case round =>
        obtain ⟨k, P, hk, rfl, rfl, hP⟩ := hrel
        by_cases hlt : k < n - (x - y)
        · obtain ⟨Q, hQ, hQ2⟩ := mul_rule h3 h4 h2 (show k + 1 ≤ n by omega) (show 1 ≤ ((a : Int) - 1) by omega) (show ((a : Int) - 1) ≤ 5 by omega) hP.out
          have HQ := Lib.hid hQ2
          clear hQ2
          go_wp2_with fail
          go_round
          case rel => exact ⟨k + 1, Q, by omega, by go_num, int_eq hQ, HQ.out⟩
          case measure => simp [intOf]; omega
        · go_wp2_with fail
          go_ret
          exact ⟨ret_int (by rw [hP.out]; unfold wN; rw [if_neg hb, hd.out, show k = n - (x - y) from by omega]), rfl⟩

end Go.Proofs.Ytjglikccikeejac
