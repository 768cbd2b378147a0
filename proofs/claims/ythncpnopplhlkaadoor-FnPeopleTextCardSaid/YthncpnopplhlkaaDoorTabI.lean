/-
  Contract: impl.TableValid.
-/
import Derived.Test.YthncpnopplhlkaaDoorTab
import Derived.Test.YthncpnopplhlkaaDoorTextMath
namespace Go.Proofs.YthncpnopplhlkaaDoor
open Go.RowKit
open Go.TextMath (tvB)

def rowOk (m : Nat) (r : List Int) : Prop := r.length = m ∧ ∀ j, j < r.length → 0 ≤ r.getD j 0 ∧ r.getD j 0 ≤ 99
theorem tv_t {T : List (List Int)} : tvB T = true ↔ 1 ≤ T.length ∧ T.length ≤ 4 ∧ 1 ≤ (T.getD 0 []).length ∧ (T.getD 0 []).length ≤ 4 ∧ ∀ i, i < T.length → rowOk (T.getD 0 []).length (T.getD i []) := by
  simp only [tvB, decide_eq_true_eq, rowOk]
theorem tv_f {T : List (List Int)} (h : ¬ (1 ≤ T.length ∧ T.length ≤ 4 ∧ 1 ≤ (T.getD 0 []).length ∧ (T.getD 0 []).length ≤ 4)) : false = tvB T := by
  symm; rw [Bool.eq_false_iff]; intro hh
  obtain ⟨h1, h2, h3, h4, _⟩ := tv_t.1 hh
  exact h ⟨h1, h2, h3, h4⟩
theorem tv_fr {T : List (List Int)} {i : Nat} (hi : i < T.length) (h : ¬ rowOk (T.getD 0 []).length (T.getD i [])) : false = tvB T := by
  symm; rw [Bool.eq_false_iff]; intro hh
  exact h ((tv_t.1 hh).2.2.2.2 i hi)

set_option maxHeartbeats 400000 in
theorem tableValidI (ao : Option Addr) (b off cap : Nat) (T : List (List Int)) (w : World) (hr : Tab .i64 w ao b off T) (hl : T.length ≤ 9223372036854775807) :
    Calls Tryd.prog 30 #[.slice ao T.length cap] w fun e w' => e = .returned (.bool (tvB T)) ∧ w = w' := by
  obtain ⟨ha, hc⟩ := hr
  by_cases hT : T.length < 1 ∨ 4 < T.length
  · go_enter Tryd.func30, Tryd.ntmps30
    go_wp2_with fail
    all_goals
      go_ret
      exact ⟨ret_bool (tv_f (by omega)), rfl⟩
  · obtain rfl := ha (by omega)
    obtain ⟨a0, b0, o0, c0, hc0, hr0, hl0, hl1⟩ := hc 0 (by omega)
    rw [Nat.add_zero] at hc0
    obtain ⟨m, hm⟩ : ∃ m, (T.getD 0 []).length = m := ⟨_, rfl⟩
    rw [hm] at hc0
    have HC := Lib.hid hc
    clear hc ha hr0
    by_cases hm4 : m < 1 ∨ 4 < m
    · go_enter Tryd.func30, Tryd.ntmps30
      go_wp2_with fail
      all_goals
        go_ret
        exact ⟨ret_bool (tv_f (by omega)), rfl⟩
    · go_enter Tryd.func30, Tryd.ntmps30
      go_wp2_with fail
      go_loop [31] (fun t => ∃ k : Nat, k ≤ T.length ∧ t = .int .i64 k ∧ ∀ i, i < k → rowOk m (T.getD i [])) (fun t => T.length - (intOf t).toNat)
      case atStart => exact ⟨0, Nat.zero_le _, rfl, fun i hi => absurd hi (Nat.not_lt_zero _)⟩
      case round =>
        obtain ⟨k, hk, rfl, hold⟩ := hrel
        have Hold := Lib.hid hold
        clear hold
        by_cases hlt : k < T.length
        · obtain ⟨a', b', o', c', h1, h2, h3, h4⟩ := HC.out k hlt
          obtain ⟨r, hrr⟩ : ∃ r, T.getD k [] = r := ⟨_, rfl⟩
          rw [hrr] at h1 h2 h3
          have HRR := Lib.hid hrr
          clear hrr
          by_cases hlen : r.length = m
          · have hne : ((r.length : Int) != (m : Int)) = false := by rw [hlen]; simp
            have HR := Lib.hid h2
            clear h2
            go_wp2_with fail
            go_loop [44] (fun t => ∃ j : Nat, j ≤ r.length ∧ t = .int .i64 j ∧ ∀ i, i < j → 0 ≤ r.getD i 0 ∧ r.getD i 0 ≤ 99) (fun t => r.length - (intOf t).toNat)
            case atStart => exact ⟨0, Nat.zero_le _, rfl, by omega⟩
            case round =>
              obtain ⟨j, hj, rfl, hold2⟩ := hrel
              have Hold2 := Lib.hid hold2
              clear hold2
              by_cases hlt2 : j < r.length
              · obtain rfl := HR.out.1 (by omega)
                have hcj := HR.out.2 j hlt2
                have hget := getD_at (xs := r) hlt2
                go_wp2_with fail
                rotate_left
                · go_round
                  case rel =>
                    refine ⟨j + 1, by omega, by go_num, fun i hi => ?_⟩
                    by_cases e : i = j
                    · subst e; rw [hget]; omega
                    · exact Hold2.out i (by omega)
                  case measure => simp [intOf]; omega
                all_goals
                  go_ret
                  exact ⟨ret_bool (tv_fr hlt (by rw [hm, HRR.out]; intro hh; have := hh.2 j hlt2; rw [hget] at this; omega)), rfl⟩
              · go_wp2_with fail
                go_round
                case rel =>
                  refine ⟨k + 1, by omega, by go_num, fun i hi => ?_⟩
                  by_cases e : i = k
                  · subst e; rw [HRR.out]; exact ⟨hlen, fun i hi => Hold2.out i (by omega)⟩
                  · exact Hold.out i (by omega)
                case measure => simp [intOf]; omega
          · have hne : ((r.length : Int) != (m : Int)) = true := by rw [bne_iff_ne]; omega
            go_wp2_with fail
            go_ret
            exact ⟨ret_bool (tv_fr hlt (by rw [hm, HRR.out]; exact fun h => hlen h.1)), rfl⟩
        · go_wp2_with fail
          go_ret
          exact ⟨ret_bool (by symm; exact tv_t.2 ⟨by omega, by omega, by omega, by omega, fun i hi => by rw [hm]; exact Hold.out i (by omega)⟩), rfl⟩
end Go.Proofs.YthncpnopplhlkaaDoor
