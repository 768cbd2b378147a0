/-
  Contracts: impl.AskValid, spec.AskValid.
-/
import Derived.Test.YtjglikccikeejabPow2
namespace Go.Proofs.Ytjglikccikeejab
open Go.RowKit

/-- Some questions are valid. -/
def vldB (n : Int) (xs : List Int) : Bool := decide (1 ≤ n ∧ n ≤ 6 ∧ xs.length ≤ 12 ∧ ∀ i, i < xs.length → 1 ≤ xs.getD i 0 ∧ xs.getD i 0 < 2 ^ n.toNat)

theorem vld_t {n : Int} {xs : List Int} (h : vldB n xs = true) : 1 ≤ n ∧ n ≤ 6 ∧ xs.length ≤ 12 ∧ ∀ i, i < xs.length → 1 ≤ xs.getD i 0 ∧ xs.getD i 0 < 2 ^ n.toNat := by simpa [vldB] using h
theorem vld_f {n : Int} {xs : List Int} (h : ¬ (1 ≤ n ∧ n ≤ 6 ∧ xs.length ≤ 12)) : false = vldB n xs := by
  symm; simp only [vldB, decide_eq_false_iff_not]; intro hh; exact h ⟨hh.1, hh.2.1, hh.2.2.1⟩
theorem vld_f' {n : Int} {xs : List Int} {k : Nat} (hk : k < xs.length) (h : xs[k] < 1 ∨ 2 ^ n.toNat ≤ xs[k]) : false = vldB n xs := by
  symm; simp only [vldB, decide_eq_false_iff_not]; intro hh
  have := hh.2.2.2 k hk
  simp only [List.getD_eq_getElem?_getD, List.getElem?_eq_getElem hk, Option.getD_some] at this
  omega
theorem vld_up {n : Int} {xs : List Int} {k : Nat} (hk : k < xs.length) (hold : ∀ i, i < k → 1 ≤ xs.getD i 0 ∧ xs.getD i 0 < 2 ^ n.toNat) (h1 : 1 ≤ xs[k]) (h2 : xs[k] < 2 ^ n.toNat) :
    ∀ i, i < k + 1 → 1 ≤ xs.getD i 0 ∧ xs.getD i 0 < 2 ^ n.toNat := by
  intro i hi
  by_cases e : i = k
  · subst e
    simp only [List.getD_eq_getElem?_getD, List.getElem?_eq_getElem hk, Option.getD_some]
    exact ⟨h1, h2⟩
  · exact hold i (by omega)

theorem vld_take {n : Int} {xs : List Int} (h : vldB n xs = true) (m : Nat) : vldB n (xs.take m) = true := by
  obtain ⟨h1, h6, h12, he⟩ := vld_t h
  simp only [vldB, decide_eq_true_eq]
  refine ⟨h1, h6, by rw [List.length_take]; omega, fun i hi => ?_⟩
  rw [List.length_take] at hi
  rw [getD_take (by omega)]
  exact he i (by omega)
theorem getD_snoc (xs : List Int) (x : Int) : (xs ++ [x]).getD xs.length 0 = x := by simp [List.getD_eq_getElem?_getD]
theorem vld_snoc_f {n : Int} {xs : List Int} {x : Int} (h : x < 1 ∨ 2 ^ n.toNat ≤ x) : vldB n (xs ++ [x]) = false := by
  simp only [vldB, decide_eq_false_iff_not]
  intro hh
  have := hh.2.2.2 xs.length (by simp)
  rw [getD_snoc] at this
  omega

set_option maxHeartbeats 400000 in
theorem validI (n : Int) (ao : Option Addr) (b off cap : Nat) (xs : List Int) (w : World) (hr : Row .i64 w ao b off xs) (hl : xs.length ≤ 9223372036854775807) :
    Calls Try.prog 18 #[.int .i64 n, .slice ao xs.length cap] w fun e w' => e = .returned (.bool (vldB n xs)) ∧ w = w' := by
  obtain ⟨ha, hc⟩ := hr
  go_enter Try.func18, Try.ntmps18
  go_wp2
  rotate_left
  · have h1 : 1 ≤ n := by omega
    have h6 : n ≤ 6 := by omega
    have hll : xs.length ≤ 12 := by omega
    go_loop [20] (fun t => ∃ k : Nat, k ≤ xs.length ∧ t = .int .i64 k ∧ ∀ i, i < k → 1 ≤ xs.getD i 0 ∧ xs.getD i 0 < 2 ^ n.toNat) (fun t => xs.length - (intOf t).toNat)
    case atStart => exact ⟨0, Nat.zero_le _, rfl, by omega⟩
    case round =>
      obtain ⟨k, hk, rfl, hold⟩ := hrel
      have Hold := Lib.hid hold
      clear hold
      by_cases hlt : k < xs.length
      · obtain rfl := ha (by omega)
        have hcell := hc k hlt
        have H0 : (0 : Int) ≤ 2 ^ n.toNat := Int.pow_nonneg (by omega)
        have Hw : Hid (wrap64 (2 ^ n.toNat) = 2 ^ n.toNat) := IntWalk.wrap64_in _ ⟨by omega, two_le (by omega)⟩
        clear hc ha H0
        go_wp2
        · have h : xs[k] < 1 ∨ wrap64 (2 ^ n.toNat) ≤ xs[k] := by assumption
          rw [Hw.out] at h
          go_ret
          exact ⟨ret_bool (vld_f' hlt h), rfl⟩
        · have h : 1 ≤ xs[k] ∧ xs[k] < wrap64 (2 ^ n.toNat) := by assumption
          rw [Hw.out] at h
          go_round
          case rel => exact ⟨k + 1, by omega, by go_num, vld_up hlt Hold.out h.1 h.2⟩
          case measure => simp [intOf]; omega
        · have h : xs[k] < 1 := by assumption
          go_ret
          exact ⟨ret_bool (vld_f' hlt (.inl h)), rfl⟩
      · go_wp2
        go_ret
        exact ⟨ret_bool (by symm; simp only [vldB, decide_eq_true_eq]; exact ⟨h1, h6, hll, fun i hi => Hold.out i (by omega)⟩), rfl⟩
  all_goals go_ret
  all_goals exact ⟨ret_bool (vld_f (by omega)), rfl⟩

set_option maxHeartbeats 400000 in
theorem validS (n : Int) (ao : Option Addr) (b off cap : Nat) (xs : List Int) (w : World) (hr : Row .i64 w ao b off xs) (hl : xs.length ≤ 9223372036854775807) :
    Calls Try.prog 37 #[.int .i64 n, .slice ao xs.length cap] w fun e w' => e = .returned (.bool (vldB n xs)) ∧ ∃ q, w' = w.drewN q := by
  obtain ⟨ha, hc⟩ := hr
  by_cases h16 : 1 ≤ n ∧ n ≤ 6
  · obtain ⟨h1, h6⟩ := h16
    have H0 : (0 : Int) < 2 ^ n.toNat := Int.pow_pos (by omega)
    have H63 := two_le (n := n.toNat) (by omega)
    by_cases h12 : xs.length ≤ 12
    · go_enter Try.func37, Try.ntmps37
      go_wp2_with fail
      refine (in_yes _ _ _ _ h1 h6).mono ?_
      rintro e w' ⟨rfl, rfl⟩
      go_wp2
      go_loopw [5] (fun t wr => (∃ k : Nat, k ≤ xs.length ∧ t = .int .i64 k ∧ ∀ i, i < k → 1 ≤ xs.getD i 0 ∧ xs.getD i 0 < 2 ^ n.toNat) ∧ ∃ q, wr = w.drewN q) (fun t _ => xs.length - (intOf t).toNat)
      case atStart => exact ⟨⟨0, Nat.zero_le _, rfl, by omega⟩, 0, rfl⟩
      case round =>
        obtain ⟨⟨k, hk, rfl, hold⟩, q, rfl⟩ := hrel
        have Hold := Lib.hid hold
        clear hold
        by_cases hlt : k < xs.length
        · obtain rfl := ha (by omega)
          obtain ⟨x, hx⟩ : ∃ x, xs.getD k 0 = x := ⟨_, rfl⟩
          have hcell := hc k hlt
          rw [hx] at hcell
          have Hx := Lib.hid hx
          clear hc ha hx
          have Hw : IntKind.i64.wrap (2 ^ n.toNat - 1) = 2 ^ n.toNat - 1 := IntWalk.i64_in _ ⟨by omega, by omega⟩
          go_wp2_with fail
          by_cases hx : 1 ≤ x ∧ x ≤ 2 ^ n.toNat - 1
          · go_quiet (first | (go_at_call 35; exact quiet_add_left (power2_any _ _ (by omega) (by omega))) | (go_at_call 34; exact quiet_add_left (in_yes _ _ _ _ hx.1 hx.2)))
            clear Hw
            go_wp2
            go_roundw
            case rel => exact ⟨⟨k + 1, by omega, by go_num, vld_up hlt Hold.out (by rw [← getD_at hlt, Hx.out]; omega) (by rw [← getD_at hlt, Hx.out]; omega)⟩, _, rfl⟩
            case measure => simp [intOf]; omega
          · go_quiet (first | (go_at_call 35; exact quiet_add_left (power2_any _ _ (by omega) (by omega))) | (go_at_call 34; exact quiet_add_left (in_no _ _ _ _ hx)))
            clear Hw
            go_wp2
            go_ret
            exact ⟨ret_bool (vld_f' hlt (by rw [← getD_at hlt, Hx.out]; omega)), _, World.drewN_drewN _ _ _⟩
        · go_wp2
          go_ret
          exact ⟨ret_bool (by symm; simp only [vldB, decide_eq_true_eq]; exact ⟨h1, h6, h12, fun i hi => Hold.out i (by omega)⟩), _, rfl⟩
    · go_enter Try.func37, Try.ntmps37
      go_wp2_with fail
      refine (in_yes _ _ _ _ h1 h6).mono ?_
      rintro e w' ⟨rfl, rfl⟩
      go_wp2
      go_ret
      exact ⟨ret_bool (vld_f (by omega)), 0, rfl⟩
  · go_enter Try.func37, Try.ntmps37
    go_wp2_with fail
    refine (in_no _ _ _ _ h16).mono ?_
    rintro e w' ⟨rfl, rfl⟩
    go_wp2
    go_ret
    exact ⟨ret_bool (vld_f (by omega)), 0, rfl⟩
end Go.Proofs.Ytjglikccikeejab
