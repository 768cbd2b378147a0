/-
  Contracts: the drawn numbers of a noise.
-/
import Derived.Test.YtjglikccikeejacOwn
import Derived.Test.YtjglikccikeejacNoise3
namespace Go.Proofs.Ytjglikccikeejac
open Go.RowKit

/-- Four drawn numbers. -/
def Drawn4 (rb : Nat) (p : Int) (w : World) (e : Ending) (w' : World) : Prop :=
  ∃ (n a x y p' : Int), e = .returned (.tuple #[.int .i64 n, .int .i64 a, .int .i64 x, .int .i64 y]) ∧ -1 ≤ n ∧ n ≤ 20 ∧ -1 ≤ a ∧ a ≤ 20 ∧ -1 ≤ x ∧ x ≤ 20 ∧ IsRd w' rb p' ∧ p' ≤ p + 10 ∧ Fr rb w w'

set_option maxHeartbeats 2000000 in
theorem noise_any (rb : Nat) (p : Int) (w : World) (h : IsRd w rb p) (hp : p ≤ 900000000) :
    Calls Try.prog 13 #[.pointer (some ⟨rb, 0, none⟩)] w (Drawn4 rb p w) := by
  have hrb := h.lt
  have hp0 : 0 ≤ p := by obtain ⟨_, _, _, _, _, _, _, _, _, _, h0⟩ := h; exact h0
  go_enter Try.func13, Try.ntmps13
  go_wp2_with fail
  refine (pick_any rb 8 p _ h (by omega) (by omega)).mono ?_
  rintro e w1 ⟨k1, rfl, hk10, hk11, hrd1, ho1⟩
  have hk12 : k1 ≤ 7 := by omega
  go_wp2_with fail
  refine (pick_any rb 4 (p + 1) _ hrd1 (by omega) (by omega)).mono ?_
  rintro e w2 ⟨k2, rfl, hk20, hk21, hrd2, ho2⟩
  have hk22 : k2 ≤ 3 := by omega
  clear hk11 hk21
  go_wp2_with fail
  refine (pick_any rb _ (p + 1 + 1) _ hrd2 (by omega) (by omega)).mono ?_
  rintro e w3 ⟨k3, rfl, hk30, hk31, hrd3, ho3⟩
  have hk32 : k3 ≤ 8 := by omega
  clear hk31
  go_wp2_with fail
  refine (pick_any rb _ (p + 1 + 1 + 1) _ hrd3 (by omega) (by omega)).mono ?_
  rintro e w4 ⟨k4, rfl, hk40, hk41, hrd4, ho4⟩
  have hk42 : k4 ≤ 8 := by omega
  clear hk41
  go_wp2_with fail
  refine (pick_any rb _ (p + 1 + 1 + 1 + 1) _ hrd4 (by omega) (by omega)).mono ?_
  rintro e w5 ⟨k5, rfl, hk50, hk51, hrd5, ho5⟩
  have HF5 := Lib.hid (((((Fr.refl rb w).only ho1).only ho2).only ho3).only ho4 |>.only ho5)
  have HR5 := Lib.hid hrd5
  have hsz : rb < w5.heap.size := hrd5.lt
  clear hrd1 hrd2 hrd3 hrd4 hrd5 ho1 ho2 ho3 ho4 ho5 hk51
  -- what a list of two numbers and a pick give
  have two : ∀ (u v : Int) (w6 : World), Only rb (w5.alloc (.cells #[.int .i64 u, .int .i64 v] 3)) w6 → w6.cell? ⟨w5.heap.size, 0, none⟩ = some (.int .i64 u) ∧ w6.cell? ⟨w5.heap.size, 1, none⟩ = some (.int .i64 v) := by
    intro u v w6 ho
    have hb := ho.2.2.2.2 w5.heap.size (by omega)
    constructor
    · rw [World.cell?_of_block (w := w5.alloc (.cells #[.int .i64 u, .int .i64 v] 3)) hb, World.cell?_alloc_new]; rfl
    · rw [World.cell?_of_block (w := w5.alloc (.cells #[.int .i64 u, .int .i64 v] 3)) hb, World.cell?_alloc_new]; rfl
  have Two := Lib.hid two
  clear two
  by_cases c0 : k5 = 0
  · subst c0
    go_wp2_with fail
    refine (pick_any rb _ (p + 1 + 1 + 1 + 1 + 1) _ (HR5.out.alloc _) (by omega) (by omega)).mono ?_
    rintro e w6 ⟨k6, rfl, hk60, hk61, hrd6, ho6⟩
    obtain ⟨hc0, hc1⟩ := Two.out _ _ _ ho6
    have HR6 := Lib.hid hrd6
    have HF6 := Lib.hid ((HF5.out.alloc _).only ho6)
    clear hrd6 ho6
    have hk6 : k6 = 0 ∨ k6 = 1 := by omega
    clear hk61
    rcases hk6 with rfl | rfl
    all_goals
      go_wp2_with fail
      refine bodyPost_ret (results_tmp4 rfl _ _ _) rfl ?_
      exact ⟨_, _, _, _, _, rfl, by omega, by omega, by omega, by omega, by omega, by omega, HR6.out, by omega, HF6.out⟩
  have n0 : (k5 == 0) = false := by rw [beq_eq_false_iff_ne]; omega
  by_cases c1 : k5 = 1
  · subst c1
    go_wp2_with fail
    refine (pick_any rb _ (p + 1 + 1 + 1 + 1 + 1) _ (HR5.out.alloc _) (by omega) (by omega)).mono ?_
    rintro e w6 ⟨k6, rfl, hk60, hk61, hrd6, ho6⟩
    obtain ⟨hc0, hc1⟩ := Two.out _ _ _ ho6
    have HR6 := Lib.hid hrd6
    have HF6 := Lib.hid ((HF5.out.alloc _).only ho6)
    clear hrd6 ho6
    have hk6 : k6 = 0 ∨ k6 = 1 := by omega
    clear hk61
    rcases hk6 with rfl | rfl
    all_goals
      go_wp2_with fail
      refine bodyPost_ret (results_tmp4 rfl _ _ _) rfl ?_
      exact ⟨_, _, _, _, _, rfl, by omega, by omega, by omega, by omega, by omega, by omega, HR6.out, by omega, HF6.out⟩
  have n1 : (k5 == 1) = false := by rw [beq_eq_false_iff_ne]; omega
  by_cases c2 : k5 = 2
  · subst c2
    go_wp2_with fail
    refine (pick_any rb _ (p + 1 + 1 + 1 + 1 + 1) _ (HR5.out.alloc _) (by omega) (by omega)).mono ?_
    rintro e w6 ⟨k6, rfl, hk60, hk61, hrd6, ho6⟩
    obtain ⟨hc0, hc1⟩ := Two.out _ _ _ ho6
    have HR6 := Lib.hid hrd6
    have HF6 := Lib.hid ((HF5.out.alloc _).only ho6)
    clear hrd6 ho6
    have hk6 : k6 = 0 ∨ k6 = 1 := by omega
    clear hk61
    rcases hk6 with rfl | rfl
    all_goals
      go_wp2_with fail
      refine bodyPost_ret (results_tmp4 rfl _ _ _) rfl ?_
      exact ⟨_, _, _, _, _, rfl, by omega, by omega, by omega, by omega, by omega, by omega, HR6.out, by omega, HF6.out⟩
  have n2 : (k5 == 2) = false := by rw [beq_eq_false_iff_ne]; omega
  by_cases c3 : k5 = 3
  · subst c3
    go_wp2_with fail
    refine (pick_any rb _ (p + 1 + 1 + 1 + 1 + 1) _ (HR5.out.alloc _) (by omega) (by omega)).mono ?_
    rintro e w6 ⟨k6, rfl, hk60, hk61, hrd6, ho6⟩
    obtain ⟨hc0, hc1⟩ := Two.out _ _ _ ho6
    have HR6 := Lib.hid hrd6
    have HF6 := Lib.hid ((HF5.out.alloc _).only ho6)
    clear hrd6 ho6
    have hk6 : k6 = 0 ∨ k6 = 1 := by omega
    clear hk61
    rcases hk6 with rfl | rfl
    all_goals
      go_wp2_with fail
      refine bodyPost_ret (results_tmp4 rfl _ _ _) rfl ?_
      exact ⟨_, _, _, _, _, rfl, by omega, by omega, by omega, by omega, by omega, by omega, HR6.out, by omega, HF6.out⟩
  have n3 : (k5 == 3) = false := by rw [beq_eq_false_iff_ne]; omega
  go_wp2_with fail
  refine bodyPost_ret (results_tmp4 rfl _ _ _) rfl ?_
  exact ⟨_, _, _, _, _, rfl, by omega, by omega, by omega, by omega, by omega, by omega, HR5.out, by omega, HF5.out⟩

end Go.Proofs.Ytjglikccikeejac
