/-
  Contract: spec.TableValid.
-/
import Derived.Test.YthncpnopplhlkaaDoorTabI
import Derived.Test.YthncpnopplhlkaaDoorIn
namespace Go.Proofs.YthncpnopplhlkaaDoor
open Go.RowKit
open Go.TextMath (tvB)

set_option maxHeartbeats 400000 in
theorem tableValidS (ao : Option Addr) (b off cap : Nat) (T : List (List Int)) (w : World) (hr : Tab .i64 w ao b off T) (hl : T.length ≤ 9223372036854775807) :
    Calls Tryd.prog 40 #[.slice ao T.length cap] w fun e w' => e = .returned (.bool (tvB T)) ∧ ∃ q, w' = w.drewN q := by
  obtain ⟨ha, hc⟩ := hr
  by_cases hT : 1 ≤ T.length ∧ T.length ≤ 4
  · obtain ⟨hT1, hT4⟩ := hT
    obtain rfl := ha (by omega)
    obtain ⟨a0, b0, o0, c0, hc0, hr0, hl0, hl1⟩ := hc 0 (by omega)
    rw [Nat.add_zero] at hc0
    obtain ⟨m, hm⟩ : ∃ m, (T.getD 0 []).length = m := ⟨_, rfl⟩
    rw [hm] at hc0
    have HC := Lib.hid hc
    clear hc ha hr0
    by_cases hm4 : 1 ≤ m ∧ m ≤ 4
    · obtain ⟨hm1, hm4'⟩ := hm4
      go_enter Tryd.func40, Tryd.ntmps40
      go_wp2_with fail
      refine (in_yes _ _ _ _ (by omega) (by omega)).mono ?_
      rintro e w' ⟨rfl, rfl⟩
      go_wp2_with fail
      refine (in_yes _ _ _ _ (by omega) (by omega)).mono ?_
      rintro e w' ⟨rfl, rfl⟩
      go_wp2_with fail
      go_loopw [3] (fun t wr => (∃ k : Nat, k ≤ T.length ∧ t = .int .i64 k ∧ ∀ i, i < k → rowOk m (T.getD i [])) ∧ ∃ q, wr = w.drewN q) (fun t _ => T.length - (intOf t).toNat)
      case atStart => exact ⟨⟨0, Nat.zero_le _, rfl, fun i hi => absurd hi (Nat.not_lt_zero _)⟩, 0, rfl⟩
      case round =>
        obtain ⟨⟨k, hk, rfl, hold⟩, q, rfl⟩ := hrel
        have Hold := Lib.hid hold
        clear hold
        by_cases hlt : k < T.length
        · obtain ⟨a', b', o', c', h1, h2, h3, h4⟩ := HC.out k hlt
          obtain ⟨r, hrr⟩ : ∃ r, T.getD k [] = r := ⟨_, rfl⟩
          rw [hrr] at h1 h2 h3
          have HRR := Lib.hid hrr
          clear hrr
          have HR := Lib.hid h2
          clear h2
          by_cases hlen : r.length = m
          · have hne : ((r.length : Int) != (m : Int)) = false := by rw [hlen]; simp
            have HLEN := Lib.hid hlen
            have hle : r.length ≤ 4 := by omega
            have hge : m ≤ r.length := by omega
            clear hlen
            go_wp2_with fail
            go_quiet (fail)
            go_wp2_with fail
            go_loopw [4] (fun t wr => (∃ j : Nat, j ≤ r.length ∧ t = .int .i64 j ∧ ∀ i, i < j → 0 ≤ r.getD i 0 ∧ r.getD i 0 ≤ 99) ∧ ∃ q, wr = w.drewN q) (fun t _ => r.length - (intOf t).toNat)
            case atStart => exact ⟨⟨0, Nat.zero_le _, rfl, by omega⟩, _, World.drewN_drewN _ _ _⟩
            case round =>
              obtain ⟨⟨j, hj, rfl, hold2⟩, q2, rfl⟩ := hrel
              have Hold2 := Lib.hid hold2
              clear hold2
              by_cases hlt2 : j < r.length
              · obtain rfl := HR.out.1 (by omega)
                obtain ⟨x, hx⟩ : ∃ x, r.getD j 0 = x := ⟨_, rfl⟩
                have hcj := HR.out.2 j hlt2
                rw [hx] at hcj
                have HX := Lib.hid hx
                clear hx
                by_cases hxx : 0 ≤ x ∧ x ≤ 99
                · go_wp2_with fail
                  refine (in_yes _ _ _ _ hxx.1 hxx.2).mono ?_
                  rintro e w' ⟨rfl, rfl⟩
                  go_wp2_with fail
                  go_roundw
                  case rel =>
                    refine ⟨⟨j + 1, by omega, by go_num, fun i hi => ?_⟩, _, rfl⟩
                    by_cases e : i = j
                    · subst e; rw [HX.out]; exact hxx
                    · exact Hold2.out i (by omega)
                  case measure => simp [intOf]; omega
                · go_wp2_with fail
                  refine (in_no _ _ _ _ hxx).mono ?_
                  rintro e w' ⟨rfl, rfl⟩
                  go_wp2_with fail
                  go_ret
                  exact ⟨ret_bool (tv_fr hlt (by rw [hm, HRR.out]; intro hh; have := hh.2 j hlt2; rw [HX.out] at this; exact hxx this)), _, rfl⟩
              · go_wp2_with fail
                go_roundw
                case rel =>
                  refine ⟨⟨k + 1, by omega, by go_num, fun i hi => ?_⟩, _, rfl⟩
                  by_cases e : i = k
                  · subst e; rw [HRR.out]; exact ⟨HLEN.out, fun i hi => Hold2.out i (by omega)⟩
                  · exact Hold.out i (by omega)
                case measure => simp [intOf]; omega
          · have hne : ((r.length : Int) != (m : Int)) = true := by rw [bne_iff_ne]; omega
            go_wp2_with fail
            go_quiet (fail)
            go_wp2_with fail
            go_ret
            exact ⟨ret_bool (tv_fr hlt (by rw [hm, HRR.out]; exact fun h => hlen h.1)), _, World.drewN_drewN _ _ _⟩
        · go_wp2_with fail
          go_ret
          exact ⟨ret_bool (by symm; exact tv_t.2 ⟨by omega, by omega, by omega, by omega, fun i hi => by rw [hm]; exact Hold.out i (by omega)⟩), _, rfl⟩
    · go_enter Tryd.func40, Tryd.ntmps40
      go_wp2_with fail
      refine (in_yes _ _ _ _ (by omega) (by omega)).mono ?_
      rintro e w' ⟨rfl, rfl⟩
      go_wp2_with fail
      refine (in_no _ _ _ _ (by omega)).mono ?_
      rintro e w' ⟨rfl, rfl⟩
      go_wp2_with fail
      go_ret
      exact ⟨ret_bool (tv_f (by omega)), 0, rfl⟩
  · go_enter Tryd.func40, Tryd.ntmps40
    go_wp2_with fail
    refine (in_no _ _ _ _ (by omega)).mono ?_
    rintro e w' ⟨rfl, rfl⟩
    go_wp2_with fail
    go_ret
    exact ⟨ret_bool (tv_f (by omega)), 0, rfl⟩
end Go.Proofs.YthncpnopplhlkaaDoor
