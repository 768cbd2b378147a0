/-
  Contracts: impl.MaskValid, spec.MaskValid.
-/
import Derived.Test.YtgnmfbgoacfjeaaDoorTabS
import Derived.Test.YtgnmfbgoacfjeaaDoorTabB
namespace Go.Proofs.YtgnmfbgoacfjeaaDoor
open Go.RowKit
open Go.TextMath (tvB mvB)

set_option maxHeartbeats 400000 in
theorem maskValidI (ao : Option Addr) (b off cap : Nat) (T : List (List Int)) (am : Option Addr) (bm om cm : Nat) (M : List (List Bool)) (w : World) (hr : Tab .i64 w ao b off T) (hl : T.length ≤ 9223372036854775807)
    (hm : TabB w am bm om M) (hlm : M.length ≤ 9223372036854775807) :
    Calls Tryd.prog 50 #[.slice ao T.length cap, .slice am M.length cm] w fun e w' => e = .returned (.bool (mvB T M)) ∧ w = w' := by
  have HR := Lib.hid hr
  have HM := Lib.hid hm
  clear hr hm
  cases hv : tvB T with
  | false =>
    have HV := Lib.hid hv
    go_enter Tryd.func50, Tryd.ntmps50
    go_wp2_with fail
    refine (tableValidI ao b off cap T w HR.out hl).mono ?_
    rintro e w' ⟨rfl, rfl⟩
    go_wp2_with fail
    go_ret
    exact ⟨ret_bool (mv_f (by rw [HV.out]; simp)), rfl⟩
  | true =>
    obtain ⟨t1, t2, t3, t4, t5⟩ := tv_t.1 hv
    have HV := Lib.hid hv
    have HT5 := Lib.hid t5
    obtain rfl := HR.out.1 (by omega)
    obtain ⟨a0, b0, o0, c0, hc0, _, _, _⟩ := HR.out.2 0 (by omega)
    rw [Nat.add_zero] at hc0
    obtain ⟨m, hme⟩ : ∃ m, (T.getD 0 []).length = m := ⟨_, rfl⟩
    rw [hme] at hc0 t3 t4
    have HME := Lib.hid hme
    clear hme t5
    by_cases hlen : M.length = T.length
    · have hne : ((M.length : Int) != (T.length : Int)) = false := by rw [hlen]; simp
      have HLEN := Lib.hid hlen
      have hle : M.length ≤ 4 := by omega
      have hge : T.length ≤ M.length := by omega
      obtain rfl := HM.out.1 (by omega)
      clear hlen
      go_enter Tryd.func50, Tryd.ntmps50
      go_wp2_with fail
      refine (tableValidI _ b off cap T w HR.out hl).mono ?_
      rintro e w' ⟨rfl, rfl⟩
      go_wp2_with fail
      go_loop [19] (fun t => ∃ k : Nat, k ≤ M.length ∧ t = .int .i64 k ∧ ∀ i, i < k → (M.getD i []).length = m) (fun t => M.length - (intOf t).toNat)
      case atStart => exact ⟨0, Nat.zero_le _, rfl, fun i hi => absurd hi (Nat.not_lt_zero _)⟩
      case round =>
        obtain ⟨k, hk, rfl, hold⟩ := hrel
        have Hold := Lib.hid hold
        clear hold
        by_cases hlt : k < M.length
        · obtain ⟨a', b', o', c', h1, h2, h3, h4⟩ := HM.out.2 k hlt
          obtain ⟨r, hrr⟩ : ∃ r, M.getD k [] = r := ⟨_, rfl⟩
          rw [hrr] at h1 h2 h3
          have HRR := Lib.hid hrr
          clear hrr h2
          by_cases hlr : r.length = m
          · have hnr : ((r.length : Int) != (m : Int)) = false := by rw [hlr]; simp
            have HLR := Lib.hid hlr
            clear hlr
            go_wp2_with fail
            go_round
            case rel =>
              refine ⟨k + 1, by omega, by go_num, fun i hi => ?_⟩
              by_cases e : i = k
              · subst e; rw [HRR.out]; exact HLR.out
              · exact Hold.out i (by omega)
            case measure => simp [intOf]; omega
          · have hnr : ((r.length : Int) != (m : Int)) = true := by rw [bne_iff_ne]; omega
            go_wp2_with fail
            go_ret
            exact ⟨ret_bool (mv_f (by rintro ⟨_, _, hh⟩; have := hh k hlt; rw [HRR.out, HME.out] at this; exact hlr this)), rfl⟩
        · go_wp2_with fail
          go_ret
          exact ⟨ret_bool (by symm; exact mv_t.2 ⟨HV.out, HLEN.out, fun i hi => by rw [HME.out]; exact Hold.out i (by omega)⟩), rfl⟩
    · have hne : ((M.length : Int) != (T.length : Int)) = true := by rw [bne_iff_ne]; omega
      go_enter Tryd.func50, Tryd.ntmps50
      go_wp2_with fail
      refine (tableValidI _ b off cap T w HR.out hl).mono ?_
      rintro e w' ⟨rfl, rfl⟩
      go_wp2_with fail
      go_ret
      exact ⟨ret_bool (mv_f (by rintro ⟨_, hh, _⟩; exact hlen hh)), rfl⟩

set_option maxHeartbeats 400000 in
theorem maskValidS (ao : Option Addr) (b off cap : Nat) (T : List (List Int)) (am : Option Addr) (bm om cm : Nat) (M : List (List Bool)) (w : World) (hr : Tab .i64 w ao b off T) (hl : T.length ≤ 9223372036854775807)
    (hm : TabB w am bm om M) (hlm : M.length ≤ 9223372036854775807) :
    Calls Tryd.prog 51 #[.slice ao T.length cap, .slice am M.length cm] w fun e w' => e = .returned (.bool (mvB T M)) ∧ ∃ q, w' = w.drewN q := by
  have HR := Lib.hid hr
  have HM := Lib.hid hm
  clear hr hm
  cases hv : tvB T with
  | false =>
    have HV := Lib.hid hv
    go_enter Tryd.func51, Tryd.ntmps51
    go_wp2_with fail
    refine (tableValidS ao b off cap T w HR.out hl).mono ?_
    rintro e w' ⟨rfl, q, rfl⟩
    go_wp2_with fail
    go_ret
    exact ⟨ret_bool (mv_f (by rw [HV.out]; simp)), _, rfl⟩
  | true =>
    obtain ⟨t1, t2, t3, t4, t5⟩ := tv_t.1 hv
    have HV := Lib.hid hv
    have HT5 := Lib.hid t5
    obtain rfl := HR.out.1 (by omega)
    obtain ⟨a0, b0, o0, c0, hc0, _, _, _⟩ := HR.out.2 0 (by omega)
    rw [Nat.add_zero] at hc0
    obtain ⟨m, hme⟩ : ∃ m, (T.getD 0 []).length = m := ⟨_, rfl⟩
    rw [hme] at hc0 t3 t4
    have HME := Lib.hid hme
    clear hme t5
    by_cases hlen : M.length = T.length
    · have hne : ((M.length : Int) != (T.length : Int)) = false := by rw [hlen]; simp
      have HLEN := Lib.hid hlen
      have hle : M.length ≤ 4 := by omega
      have hge : T.length ≤ M.length := by omega
      obtain rfl := HM.out.1 (by omega)
      clear hlen
      go_enter Tryd.func51, Tryd.ntmps51
      go_wp2_with fail
      refine (tableValidS _ b off cap T w HR.out hl).mono ?_
      rintro e w' ⟨rfl, q, rfl⟩
      go_wp2_with fail
      go_loopw [5] (fun t wr => (∃ k : Nat, k ≤ M.length ∧ t = .int .i64 k ∧ ∀ i, i < k → (M.getD i []).length = m) ∧ ∃ q, wr = w.drewN q) (fun t _ => M.length - (intOf t).toNat)
      case atStart => exact ⟨⟨0, Nat.zero_le _, rfl, fun i hi => absurd hi (Nat.not_lt_zero _)⟩, _, rfl⟩
      case round =>
        obtain ⟨⟨k, hk, rfl, hold⟩, q2, rfl⟩ := hrel
        have Hold := Lib.hid hold
        clear hold
        by_cases hlt : k < M.length
        · obtain ⟨a', b', o', c', h1, h2, h3, h4⟩ := HM.out.2 k hlt
          obtain ⟨r, hrr⟩ : ∃ r, M.getD k [] = r := ⟨_, rfl⟩
          rw [hrr] at h1 h2 h3
          have HRR := Lib.hid hrr
          clear hrr h2
          by_cases hlr : r.length = m
          · have hnr : ((r.length : Int) != (m : Int)) = false := by rw [hlr]; simp
            have HLR := Lib.hid hlr
            clear hlr
            go_wp2_with fail
            go_quiet (fail)
            go_wp2_with fail
            go_roundw
            case rel =>
              refine ⟨⟨k + 1, by omega, by go_num, fun i hi => ?_⟩, _, rfl⟩
              by_cases e : i = k
              · subst e; rw [HRR.out]; exact HLR.out
              · exact Hold.out i (by omega)
            case measure => simp [intOf]; omega
          · have hnr : ((r.length : Int) != (m : Int)) = true := by rw [bne_iff_ne]; omega
            go_wp2_with fail
            go_quiet (fail)
            go_wp2_with fail
            go_ret
            exact ⟨ret_bool (mv_f (by rintro ⟨_, _, hh⟩; have := hh k hlt; rw [HRR.out, HME.out] at this; exact hlr this)), _, World.drewN_drewN _ _ _⟩
        · go_wp2_with fail
          go_ret
          exact ⟨ret_bool (by symm; exact mv_t.2 ⟨HV.out, HLEN.out, fun i hi => by rw [HME.out]; exact Hold.out i (by omega)⟩), _, rfl⟩
    · have hne : ((M.length : Int) != (T.length : Int)) = true := by rw [bne_iff_ne]; omega
      go_enter Tryd.func51, Tryd.ntmps51
      go_wp2_with fail
      refine (tableValidS _ b off cap T w HR.out hl).mono ?_
      rintro e w' ⟨rfl, q, rfl⟩
      go_wp2_with fail
      go_ret
      exact ⟨ret_bool (mv_f (by rintro ⟨_, hh, _⟩; exact hlen hh)), _, rfl⟩
end Go.Proofs.YtgnmfbgoacfjeaaDoor
