/-
  The walks of laws.FnNoiseDraw, FnNoiseDrawMirror, FnNoiseDrawRises, FnNoiseDrawWeight.
-/
import Derived.Test.YtjglikccikeejacNoiseDraw2
namespace Go.Proofs.Ytjglikccikeejac
open Go.RowKit

/-- What both draws give of drawn numbers: the same; and where it is not -1 the numbers are in range. -/
theorem both (n a x lot : Int) : (∀ w : World, (Calls Try.prog 8 #[.int .i64 n, .int .i64 a, .int .i64 x, .int .i64 lot] w fun e w' => e = .returned (.int .i64 (-1)) ∧ w = w') ∧
      Calls Try.prog 9 #[.int .i64 n, .int .i64 a, .int .i64 x, .int .i64 lot] w fun e w' => e = .returned (.int .i64 (-1)) ∧ w = w') ∨
    ∃ n' a' x' y : Nat, n = n' ∧ a = a' ∧ x = x' ∧ 1 ≤ n' ∧ n' ≤ 12 ∧ 2 ≤ a' ∧ a' ≤ 5 ∧ x' ≤ n' ∧ At n' a' x' lot y ∧ 0 ≤ lot ∧ lot < cum n' a' x' (n' + 1) := by
  cases hv : nvB n a x with
  | false =>
    refine .inl fun w => ⟨?_, drawS_no _ _ _ _ _ hv⟩
    by_cases h0 : lot < 0
    · exact drawI_neg _ _ _ _ _ h0
    · exact drawI_no _ _ _ _ _ hv (by omega)
  | true =>
    obtain ⟨n', a', x', rfl, rfl, rfl, g1, g2, g3, g4, g5⟩ := nv_nat hv
    by_cases hl : 0 ≤ lot ∧ lot < cum n' a' x' (n' + 1)
    · obtain ⟨y, hy⟩ := At.exists g3 g4 g2 hl.1 hl.2
      exact .inr ⟨n', a', x', y, rfl, rfl, rfl, g1, g2, g3, g4, g5, hy, hl.1, hl.2⟩
    · refine .inl fun w => ⟨?_, drawS_out _ _ _ _ _ g1 g2 g3 g4 g5 hl⟩
      by_cases h0 : lot < 0
      · exact drawI_neg _ _ _ _ _ h0
      · exact drawI_great _ _ _ _ _ g1 g2 g3 g4 g5 (by omega)

/-- The contracts at the number that the lot draws. -/
theorem drawI_at {n a x y : Nat} {lot : Int} (g1 : 1 ≤ n) (g2 : n ≤ 12) (g3 : 2 ≤ a) (g4 : a ≤ 5) (g5 : x ≤ n) (hy : At n a x lot y) (w : World) :
    Calls Try.prog 8 #[.int .i64 n, .int .i64 a, .int .i64 x, .int .i64 lot] w fun e w' => e = .returned (.int .i64 y) ∧ w = w' := by
  have h0 := cum_nonneg (n := n) (x := x) g3 g4 g2 y
  have h1 := cum_mono (x := x) g3 g4 g2 (show y + 1 ≤ n + 1 by have := hy.2.2; omega)
  refine (drawI n a x lot w g1 g2 g3 g4 g5 (by have := hy.1; omega) (by have := hy.2.1; omega)).mono ?_
  rintro e w' ⟨z, hz, rfl, rfl⟩
  exact ⟨by rw [At.uniq g3 g4 g2 hz hy], rfl⟩

theorem drawS_at {n a x y : Nat} {lot : Int} (g1 : 1 ≤ n) (g2 : n ≤ 12) (g3 : 2 ≤ a) (g4 : a ≤ 5) (g5 : x ≤ n) (hy : At n a x lot y) (w : World) :
    Calls Try.prog 9 #[.int .i64 n, .int .i64 a, .int .i64 x, .int .i64 lot] w fun e w' => e = .returned (.int .i64 y) ∧ w = w' := by
  have h0 := cum_nonneg (n := n) (x := x) g3 g4 g2 y
  have h1 := cum_mono (x := x) g3 g4 g2 (show y + 1 ≤ n + 1 by have := hy.2.2; omega)
  refine (drawS n a x lot w g1 g2 g3 g4 g5 (by have := hy.1; omega) (by have := hy.2.1; omega)).mono ?_
  rintro e w' ⟨z, hz, rfl, rfl⟩
  exact ⟨by rw [At.uniq g3 g4 g2 hz hy], rfl⟩

theorem beq_f {a b : Int} (h : a ≠ b) : (a == b) = false := beq_eq_false_iff_ne.2 h

set_option maxHeartbeats 1000000 in
theorem walkNoiseDraw (a0 : Option Addr) (b0 o0 c0 : Nat) (xs0 : List Int) (w : World)
    (hr0 : Row .u8 w a0 b0 o0 xs0) (hl0 : xs0.length ≤ c0 ∧ c0 ≤ 9223372036854775807) (hw0 : ∀ i, i < xs0.length → (Lit.int .u8 (xs0.getD i 0)).wf = true) :
    Calls Try.prog 3 #[.slice a0 xs0.length c0] w fun e w' => e = .returned (.bool true) ∧ Below w.heap.size w w' := by
  obtain ⟨hl01, hl02⟩ := hl0
  by_cases h20 : xs0.length ≤ 1048576
  · go_enter Try.func3, Try.ntmps3
    go_wp2_with fail
    refine (drawNoise_any a0 b0 o0 c0 xs0 w hr0 hl01 hw0 hl02).mono ?_
    rintro e w1 ⟨n, a, x, lot, rfl, hlt0, hlt1, hB⟩
    have HB := Lib.hid hB
    clear hB hr0 hw0
    rcases both n a x lot with hb | ⟨n, a, x, y, rfl, rfl, rfl, g1, g2, g3, g4, g5, hy, hl1, hl2⟩
    · go_wp2_with fail
      refine (hb _).1.mono ?_
      rintro e w' ⟨rfl, rfl⟩
      go_wp2_with fail
      refine (hb _).2.mono ?_
      rintro e w' ⟨rfl, rfl⟩
      clear hb
      go_wp2_with fail
      go_ret
      exact ⟨rfl, HB.out⟩
    · obtain ⟨hy1, hy2, hy3⟩ := hy
      have HY := Lib.hid (show At n a x lot y from ⟨hy1, hy2, hy3⟩)
      have hyy : ((y : Int) != (y : Int)) = false := by simp
      go_wp2_with fail
      refine (drawI_at g1 g2 g3 g4 g5 HY.out _).mono ?_
      rintro e w' ⟨rfl, rfl⟩
      go_wp2_with fail
      refine (drawS_at g1 g2 g3 g4 g5 HY.out _).mono ?_
      rintro e w' ⟨rfl, rfl⟩
      go_wp2_with fail
      go_loopw [9, 10] (fun s i wr => wr = w1 ∧ ∃ k : Nat, k ≤ y ∧ i = .int .i64 k ∧ s = .int .i64 (cum n a x k)) (fun _ i _ => y - (intOf i).toNat)
      case atStart => exact ⟨rfl, 0, Nat.zero_le _, rfl, rfl⟩
      case round =>
        obtain ⟨rfl, k, hk, rfl, rfl⟩ := hrel
        have hb0 := cum_nonneg (n := n) (x := x) g3 g4 g2 k
        have hb1 := cum_le (n := n) (x := x) g3 g4 g2 k
        obtain ⟨hw1, hw2⟩ := wN_bound (x := x) (y := k) g3 g4 g2
        by_cases hlt : k < y
        · go_wp2_with fail
          refine (weightI n a x k _ g1 g2 g3 g4 g5 (by omega)).mono ?_
          rintro e w' ⟨rfl, rfl⟩
          go_wp2_with fail
          go_roundw
          case rel => exact ⟨trivial, k + 1, by omega, by go_num, rfl⟩
          case measure => simp [intOf]; omega
        · obtain rfl : k = y := by omega
          simp only [cum] at hy2
          go_wp2_with fail
          refine (weightI n a x k _ g1 g2 g3 g4 g5 (by omega)).mono ?_
          rintro e w' ⟨rfl, rfl⟩
          go_wp2_with fail
          go_ret
          exact ⟨ret_bool (by simp), HB.out⟩
  · go_enter Try.func3, Try.ntmps3
    go_wp2_with fail
    go_ret
    exact ⟨rfl, Below.refl _ _⟩

theorem drawI_eq {n a x y : Nat} {xi yi lot : Int} (hx : xi = (x : Int)) (hyi : yi = (y : Int)) (g1 : 1 ≤ n) (g2 : n ≤ 12) (g3 : 2 ≤ a) (g4 : a ≤ 5) (g5 : x ≤ n) (hy : At n a x lot y) (w : World) :
    Calls Try.prog 8 #[.int .i64 n, .int .i64 a, .int .i64 xi, .int .i64 lot] w fun e w' => e = .returned (.int .i64 yi) ∧ w = w' := by
  subst hx; subst hyi
  exact drawI_at g1 g2 g3 g4 g5 hy w

theorem total_pos {n a x : Nat} (g2 : n ≤ 12) (g3 : 2 ≤ a) (g4 : a ≤ 5) : 1 ≤ cum n a x (n + 1) ∧ cum n a x n ≤ cum n a x (n + 1) - 1 := by
  have := cum_nonneg (n := n) (x := x) g3 g4 g2 n
  have := (wN_bound (x := x) (y := n) g3 g4 g2).1
  simp only [cum]; omega

set_option maxHeartbeats 1000000 in
theorem walkNoiseDrawMirror (a0 : Option Addr) (b0 o0 c0 : Nat) (xs0 : List Int) (w : World)
    (hr0 : Row .u8 w a0 b0 o0 xs0) (hl0 : xs0.length ≤ c0 ∧ c0 ≤ 9223372036854775807) (hw0 : ∀ i, i < xs0.length → (Lit.int .u8 (xs0.getD i 0)).wf = true) :
    Calls Try.prog 4 #[.slice a0 xs0.length c0] w fun e w' => e = .returned (.bool true) ∧ Below w.heap.size w w' := by
  obtain ⟨hl01, hl02⟩ := hl0
  by_cases h20 : xs0.length ≤ 1048576
  · go_enter Try.func4, Try.ntmps4
    go_wp2_with fail
    refine (drawNoise_any a0 b0 o0 c0 xs0 w hr0 hl01 hw0 hl02).mono ?_
    rintro e w1 ⟨n, a, x, lot, rfl, hlt0, hlt1, hB⟩
    have HB := Lib.hid hB
    clear hB hr0 hw0
    rcases both n a x lot with hb | ⟨n, a, x, y, rfl, rfl, rfl, g1, g2, g3, g4, g5, hy, hl1, hl2⟩
    · go_wp2_with fail
      refine (hb _).1.mono ?_
      rintro e w' ⟨rfl, rfl⟩
      go_wp2_with fail
      refine (hb _).2.mono ?_
      rintro e w' ⟨rfl, rfl⟩
      clear hb
      go_wp2_with fail
      go_ret
      exact ⟨rfl, HB.out⟩
    · obtain ⟨hy1, hy2, hy3⟩ := hy
      have HY := Lib.hid (show At n a x lot y from ⟨hy1, hy2, hy3⟩)
      have hyy : ((y : Int) != (y : Int)) = false := by simp
      go_wp2_with fail
      refine (drawI_at g1 g2 g3 g4 g5 HY.out _).mono ?_
      rintro e w' ⟨rfl, rfl⟩
      go_wp2_with fail
      refine (drawS_at g1 g2 g3 g4 g5 HY.out _).mono ?_
      rintro e w' ⟨rfl, rfl⟩
      have hC := total_pos (x := x) g2 g3 g4
      have hC2 := cum_le (n := n) (x := x) g3 g4 g2 (n + 1)
      go_wp2_with fail
      refine (totalI n a x _ g1 g2 g3 g4 g5).mono ?_
      rintro e w' ⟨rfl, rfl⟩
      go_wp2_with fail
      refine (drawI_eq (x := n - x) (y := n - y) (yi := (n : Int) - (y : Int)) (by omega) (by omega) g1 g2 g3 g4 (by omega) (HY.out.mirror g5) _).mono ?_
      rintro e w' ⟨rfl, rfl⟩
      go_wp2_with fail
      go_ret
      exact ⟨ret_bool (by simp), HB.out⟩
  · go_enter Try.func4, Try.ntmps4
    go_wp2_with fail
    go_ret
    exact ⟨rfl, Below.refl _ _⟩

set_option maxHeartbeats 1000000 in
theorem walkNoiseDrawRises (a0 : Option Addr) (b0 o0 c0 : Nat) (xs0 : List Int) (w : World)
    (hr0 : Row .u8 w a0 b0 o0 xs0) (hl0 : xs0.length ≤ c0 ∧ c0 ≤ 9223372036854775807) (hw0 : ∀ i, i < xs0.length → (Lit.int .u8 (xs0.getD i 0)).wf = true) :
    Calls Try.prog 5 #[.slice a0 xs0.length c0] w fun e w' => e = .returned (.bool true) ∧ Below w.heap.size w w' := by
  obtain ⟨hl01, hl02⟩ := hl0
  by_cases h20 : xs0.length ≤ 1048576
  · go_enter Try.func5, Try.ntmps5
    go_wp2_with fail
    refine (drawNoise_any a0 b0 o0 c0 xs0 w hr0 hl01 hw0 hl02).mono ?_
    rintro e w1 ⟨n, a, x, lot, rfl, hlt0, hlt1, hB⟩
    have HB := Lib.hid hB
    clear hB hr0 hw0
    rcases both n a x lot with hb | ⟨n, a, x, y, rfl, rfl, rfl, g1, g2, g3, g4, g5, hy, hl1, hl2⟩
    · go_wp2_with fail
      refine (hb _).1.mono ?_
      rintro e w' ⟨rfl, rfl⟩
      go_wp2_with fail
      refine (hb _).2.mono ?_
      rintro e w' ⟨rfl, rfl⟩
      clear hb
      go_wp2_with fail
      go_ret
      exact ⟨rfl, HB.out⟩
    · obtain ⟨hy1, hy2, hy3⟩ := hy
      have HY := Lib.hid (show At n a x lot y from ⟨hy1, hy2, hy3⟩)
      have hyy : ((y : Int) != (y : Int)) = false := by simp
      go_wp2_with fail
      refine (drawI_at g1 g2 g3 g4 g5 HY.out _).mono ?_
      rintro e w' ⟨rfl, rfl⟩
      go_wp2_with fail
      refine (drawS_at g1 g2 g3 g4 g5 HY.out _).mono ?_
      rintro e w' ⟨rfl, rfl⟩
      have hC := total_pos (x := x) g2 g3 g4
      have hC2 := cum_le (n := n) (x := x) g3 g4 g2 (n + 1)
      have A0 := Lib.hid (show At n a x 0 0 from ⟨by simp [cum], by have := (wN_bound (x := x) (y := 0) g3 g4 g2).1; simp only [cum]; omega, by omega⟩)
      have AC := Lib.hid (show At n a x (cum n a x (n + 1) - 1) n from ⟨by omega, by omega, Nat.le_refl _⟩)
      by_cases hle : lot + 1 < cum n a x (n + 1)
      · obtain ⟨y2, hy2'⟩ := At.exists g3 g4 g2 (show 0 ≤ lot + 1 by omega) hle
        have hyz : y ≤ y2 := by
          rcases Nat.lt_or_ge y2 y with h | h
          · have := cum_mono (x := x) g3 g4 g2 (show y2 + 1 ≤ y by omega); have := hy2'.2.1; omega
          · exact h
        have AZ := Lib.hid hy2'
        have hq : (lot == cum n a x (n + 1) - 1) = false := beq_f (by omega)
        clear hy2'
        go_wp2_with fail
        refine (drawI_at g1 g2 g3 g4 g5 AZ.out _).mono ?_
        rintro e w' ⟨rfl, rfl⟩
        go_wp2_with fail
        refine (totalI n a x _ g1 g2 g3 g4 g5).mono ?_
        rintro e w' ⟨rfl, rfl⟩
        go_wp2_with fail
        refine (drawI_eq (x := x) (y := 0) (yi := 0) rfl rfl g1 g2 g3 g4 g5 A0.out _).mono ?_
        rintro e w' ⟨rfl, rfl⟩
        go_wp2_with fail
        refine (drawI_at g1 g2 g3 g4 g5 AC.out _).mono ?_
        rintro e w' ⟨rfl, rfl⟩
        go_wp2_with fail
        go_ret
        exact ⟨ret_bool (by simp), HB.out⟩
      · have hq : (lot == cum n a x (n + 1) - 1) = true := by rw [beq_iff_eq]; omega
        go_wp2_with fail
        refine (drawI_great n a x _ _ g1 g2 g3 g4 g5 (by omega)).mono ?_
        rintro e w' ⟨rfl, rfl⟩
        go_wp2_with fail
        refine (totalI n a x _ g1 g2 g3 g4 g5).mono ?_
        rintro e w' ⟨rfl, rfl⟩
        go_wp2_with fail
        refine (drawI_eq (x := x) (y := 0) (yi := 0) rfl rfl g1 g2 g3 g4 g5 A0.out _).mono ?_
        rintro e w' ⟨rfl, rfl⟩
        go_wp2_with fail
        refine (drawI_at g1 g2 g3 g4 g5 AC.out _).mono ?_
        rintro e w' ⟨rfl, rfl⟩
        go_wp2_with fail
        go_ret
        exact ⟨ret_bool (by simp), HB.out⟩
  · go_enter Try.func5, Try.ntmps5
    go_wp2_with fail
    go_ret
    exact ⟨rfl, Below.refl _ _⟩

set_option maxHeartbeats 1000000 in
theorem walkNoiseDrawWeight (a0 : Option Addr) (b0 o0 c0 : Nat) (xs0 : List Int) (w : World)
    (hr0 : Row .u8 w a0 b0 o0 xs0) (hl0 : xs0.length ≤ c0 ∧ c0 ≤ 9223372036854775807) (hw0 : ∀ i, i < xs0.length → (Lit.int .u8 (xs0.getD i 0)).wf = true) :
    Calls Try.prog 6 #[.slice a0 xs0.length c0] w fun e w' => e = .returned (.bool true) ∧ Below w.heap.size w w' := by
  obtain ⟨hl01, hl02⟩ := hl0
  by_cases h20 : xs0.length ≤ 1048576
  · go_enter Try.func6, Try.ntmps6
    go_wp2_with fail
    refine (drawNoise_any a0 b0 o0 c0 xs0 w hr0 hl01 hw0 hl02).mono ?_
    rintro e w1 ⟨n, a, x, lot, rfl, hlt0, hlt1, hB⟩
    have HB := Lib.hid hB
    clear hB hr0 hw0
    rcases both n a x lot with hb | ⟨n, a, x, y, rfl, rfl, rfl, g1, g2, g3, g4, g5, hy, hl1, hl2⟩
    · go_wp2_with fail
      refine (hb _).1.mono ?_
      rintro e w' ⟨rfl, rfl⟩
      go_wp2_with fail
      refine (hb _).2.mono ?_
      rintro e w' ⟨rfl, rfl⟩
      clear hb
      go_wp2_with fail
      go_ret
      exact ⟨rfl, HB.out⟩
    · obtain ⟨hy1, hy2, hy3⟩ := hy
      have HY := Lib.hid (show At n a x lot y from ⟨hy1, hy2, hy3⟩)
      have hyy : ((y : Int) != (y : Int)) = false := by simp
      go_wp2_with fail
      refine (drawI_at g1 g2 g3 g4 g5 HY.out _).mono ?_
      rintro e w' ⟨rfl, rfl⟩
      go_wp2_with fail
      refine (drawS_at g1 g2 g3 g4 g5 HY.out _).mono ?_
      rintro e w' ⟨rfl, rfl⟩
      go_wp2_with fail
      go_loopw [9, 10] (fun s i wr => wr = w1 ∧ ∃ k : Nat, k ≤ y ∧ i = .int .i64 k ∧ s = .int .i64 (cum n a x k)) (fun _ i _ => y - (intOf i).toNat)
      case atStart => exact ⟨rfl, 0, Nat.zero_le _, rfl, rfl⟩
      case round =>
        obtain ⟨rfl, k, hk, rfl, rfl⟩ := hrel
        have hb0 := cum_nonneg (n := n) (x := x) g3 g4 g2 k
        have hb1 := cum_le (n := n) (x := x) g3 g4 g2 k
        obtain ⟨hw1, hw2⟩ := wN_bound (x := x) (y := k) g3 g4 g2
        by_cases hlt : k < y
        · go_wp2_with fail
          refine (weightI n a x k _ g1 g2 g3 g4 g5 (by omega)).mono ?_
          rintro e w' ⟨rfl, rfl⟩
          go_wp2_with fail
          go_roundw
          case rel => exact ⟨trivial, k + 1, by omega, by go_num, rfl⟩
          case measure => simp [intOf]; omega
        · obtain rfl : k = y := by omega
          simp only [cum] at hy2
          have A1 := Lib.hid (show At n a x (cum n a x k) k from ⟨Int.le_refl _, by simp only [cum]; omega, hy3⟩)
          have A2 := Lib.hid (show At n a x (cum n a x k + wN n a x k - 1) k from ⟨by omega, by simp only [cum]; omega, hy3⟩)
          go_wp2_with fail
          refine (weightI n a x k _ g1 g2 g3 g4 g5 (by omega)).mono ?_
          rintro e w' ⟨rfl, rfl⟩
          go_wp2_with fail
          refine (drawI_at g1 g2 g3 g4 g5 A1.out _).mono ?_
          rintro e w' ⟨rfl, rfl⟩
          go_wp2_with fail
          refine (drawI_at g1 g2 g3 g4 g5 A2.out _).mono ?_
          rintro e w' ⟨rfl, rfl⟩
          go_wp2_with fail
          go_ret
          exact ⟨ret_bool (by simp), HB.out⟩
  · go_enter Try.func6, Try.ntmps6
    go_wp2_with fail
    go_ret
    exact ⟨rfl, Below.refl _ _⟩

end Go.Proofs.Ytjglikccikeejac
