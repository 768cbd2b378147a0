/-
  The walk of laws.FnQuestions.
-/
import Derived.Test.YtcijlkhkcopciaaQuest
import Derived.Test.YtcijlkhkcopciaaValid
namespace Go.Proofs.Ytcijlkhkcopciaa
open Go.RowKit

/-- What the draws of the statements hand over: a number and questions, in new memory. -/
def DrawnL (w : World) (e : Ending) (w' : World) : Prop :=
  ∃ (n : Int) (v : Value) (zs : List Int), e = .returned (.tuple #[.int .i64 n, v]) ∧ 0 ≤ n ∧ n ≤ 7 ∧ zs.length ≤ 13 ∧ (∀ z ∈ zs, 0 ≤ z ∧ z ≤ 64) ∧ Own w' w.heap.size v zs ∧ Below w.heap.size w w'

theorem drawValid_any (ao : Option Addr) (b off cap : Nat) (cs : List Int) (w : World) (hr : Row .u8 w ao b off cs) (hl : cs.length ≤ cap) (hw : ∀ i, i < cs.length → (Lit.int .u8 (cs.getD i 0)).wf = true) (hl2 : cap ≤ 9223372036854775807) :
    Calls Try.prog 9 #[.slice ao cs.length cap] w (DrawnL w) := by
  go_enter Try.func9, Try.ntmps9
  go_wp2_with fail
  refine (open_any ao b off cap cs w hr hl hw hl2).mono ?_
  rintro e w1 ⟨rfl, hb1, hrd1, hs1⟩
  go_wp2_with fail
  refine (questions_any w.heap.size 0 w1 hrd1 (by omega)).mono ?_
  rintro e w2 ⟨n, p', v, zs, rfl, h0, h7, hzl, hzb, hO, hR, hp, hF⟩
  go_wp2_with fail
  go_ret2
  refine ⟨n, v, zs, rfl, h0, h7, hzl, hzb, hO.mono (by omega), hb1.trans (hF.toBelow (Nat.le_refl _) (by omega))⟩

set_option maxHeartbeats 1000000 in
theorem walkQuestions (a0 : Option Addr) (b0 o0 c0 : Nat) (xs0 : List Int) (a1 : Option Addr) (b1 o1 c1 : Nat) (xs1 : List Int) (w : World)
    (hr0 : Row .u8 w a0 b0 o0 xs0) (hl0 : xs0.length ≤ c0 ∧ c0 ≤ 9223372036854775807) (hw0 : ∀ i, i < xs0.length → (Lit.int .u8 (xs0.getD i 0)).wf = true)
    (_hr1 : Row .u8 w a1 b1 o1 xs1) (hl1 : xs1.length ≤ c1 ∧ c1 ≤ 9223372036854775807) (_hw1 : ∀ i, i < xs1.length → (Lit.int .u8 (xs1.getD i 0)).wf = true) :
    Calls Try.prog 4 #[.slice a0 xs0.length c0, .slice a1 xs1.length c1] w fun e w' => e = .returned (.bool true) ∧ Below w.heap.size w w' := by
  obtain ⟨hl01, hl02⟩ := hl0
  obtain ⟨hl11, hl12⟩ := hl1
  by_cases h20 : xs0.length ≤ 1048576 ∧ xs1.length ≤ 1048576
  · obtain ⟨h20, h21⟩ := h20
    go_enter Try.func4, Try.ntmps4
    go_wp2_with fail
    refine (drawValid_any a0 b0 o0 c0 xs0 w hr0 hl01 hw0 hl02).mono ?_
    rintro e w1 ⟨n, v, zs, rfl, hn0, hn7, hzl, hzb, hO, hB⟩
    obtain ⟨ao, b, cap, hv, hcap, hcap2, hrow, hbb, hnil⟩ := hO.row
    subst hv
    have HO := Lib.hid hO
    have HN := Lib.hid hnil
    have HR := Lib.hid hrow
    have HB := Lib.hid hB
    clear hO hnil hrow hB hbb hr0 hw0
    go_wp2_with fail
    refine (validI n ao b 0 cap zs _ HR.out (by omega)).mono ?_
    rintro e w' ⟨rfl, rfl⟩
    go_wp2_with fail
    refine (validS n ao b 0 cap zs _ HR.out (by omega)).mono ?_
    rintro e w2 ⟨rfl, q, rfl⟩
    have hvb : ((vldB n zs) != (vldB n zs)) = false := by simp
    cases hv : vldB n zs with
    | false =>
      go_wp2_with fail
      go_ret
      exact ⟨rfl, below_drewN HB.out q⟩
    | true =>
      obtain ⟨h1, h6, h12, hel⟩ := vld_t hv
      have HE := Lib.hid hel
      clear hel
      obtain ⟨m, rfl⟩ := Int.eq_ofNat_of_zero_le hn0
      have hkn : xs1.length % (zs.length + 1) ≤ zs.length := by have := Nat.mod_lt xs1.length (show 0 < zs.length + 1 by omega); omega
      have hkz0 : 0 ≤ (xs1.length : Int) % ((zs.length : Int) + 1) := Int.emod_nonneg _ (by omega)
      have hkz : (xs1.length : Int) % ((zs.length : Int) + 1) ≤ (cap : Int) := by have := Int.emod_lt_of_pos (xs1.length : Int) (show (0 : Int) < (zs.length : Int) + 1 by omega); omega
      have hkc : xs1.length % (zs.length + 1) ≤ cap := by omega
      go_wp2_with fail
      go_loop [10, 11] (fun p i => ∃ k : Nat, k ≤ m ∧ i = .int .i64 k ∧ p = .int .i64 (2 ^ k)) (fun _ i => m - (intOf i).toNat)
      case atStart => exact ⟨0, Nat.zero_le _, rfl, rfl⟩
      case round =>
        obtain ⟨k, hk, rfl, rfl⟩ := hrel
        by_cases hlt : k < m
        · have h2 : (2 : Int) ^ k * 2 = 2 ^ (k + 1) := (Int.pow_succ 2 k).symm
          have H : Hid (wrap64 ((2 : Int) ^ k * 2) = 2 ^ (k + 1)) := by
            show wrap64 ((2 : Int) ^ k * 2) = 2 ^ (k + 1)
            rw [h2]
            have h0 : (0 : Int) ≤ 2 ^ (k + 1) := Int.pow_nonneg (by omega)
            exact IntWalk.wrap64_in _ ⟨by omega, two_le (by omega)⟩
          clear h2
          go_wp2_with fail
          go_round
          case rel => exact ⟨k + 1, by omega, by go_num, int_eq H.out⟩
          case measure => simp [intOf]; omega
        · obtain rfl : k = m := by omega
          go_wp2_with fail
          have ct := validI (k : Int) ao b 0 cap (zs.take (xs1.length % (zs.length + 1))) (w1.drewN q) (HR.out.drewN q |>.take _) (by rw [List.length_take]; omega)
          rw [show (zs.take (xs1.length % (zs.length + 1))).length = xs1.length % (zs.length + 1) from by rw [List.length_take]; omega, vld_take hv] at ct
          have Ct := Lib.hid ct
          clear ct
          refine Ct.out.mono ?_
          rintro e w2 ⟨rfl, rfl⟩
          clear Ct
          have hBq := Lib.hid (below_drewN HB.out q)
          have hrq := Lib.hid (HR.out.drewN q)
          go_wp2_with (at_builtin; refine wpList_appL rfl (.tmp 61) (.tmp 62) rfl w1.heap.size _ [] rfl ?k1 ao b 0 cap zs rfl HN.out ?k2 ?k3 ?k4 ?k5 ?_)
          case k1 => exact Own.lit [] (Nat.le_refl w1.heap.size) (by simp)
          case k2 => exact hrq.out.keep ((Below.refl _ _).alloc (Nat.le_refl _) _) (Nat.le_refl _)
          case k3 => simp
          case k4 => omega
          case k5 => rw [World.size_alloc]; exact Nat.le_succ _
          intro v' w3 hO3 hB3 _
          have hB3w : Below w1.heap.size (w1.drewN q) w3 := ((Below.refl _ (w1.drewN q)).alloc (Nat.le_refl w1.heap.size) (.cells #[] 3)).trans hB3
          have HO3 := Lib.hid hO3
          have HB3 := Lib.hid hB3w
          clear hO3 hB3 hB3w
          go_wp2_with (at_builtin; refine wpList_app1 rfl (.tmp 63) (.tmp 64) rfl w1.heap.size _ zs rfl HO3.out 0 rfl rfl ?m1 ?m2 ?_)
          case m1 => omega
          case m2 => exact HB3.out.size
          intro v4 w4 hO4 hB4 _
          obtain ⟨ys4, hys4⟩ : ∃ ys, zs ++ [0] = ys := ⟨_, rfl⟩
          rw [hys4] at hO4
          obtain ⟨ao4, b4, cap4, hv4, _, hcl4, hrow4, _, _⟩ := hO4.row
          subst hv4
          have hvl4 : vldB (k : Int) ys4 = false := by rw [← hys4]; exact vld_snoc_f (by omega)
          have hle4 : ys4.length ≤ 9223372036854775807 := by rw [← hys4]; simp; omega
          have HR4 := Lib.hid hrow4
          have HB4 := Lib.hid (HB3.out.trans hB4)
          clear hrow4 hB4 hO4 hys4
          go_wp2_with fail
          have ct := validI (k : Int) ao4 b4 0 cap4 ys4 w4 HR4.out hle4
          rw [hvl4] at ct
          have Ct := Lib.hid ct
          clear ct hvl4 hle4
          refine Ct.out.mono ?_
          rintro e w' ⟨rfl, rfl⟩
          clear Ct
          go_wp2_with (at_builtin; refine wpList_appL rfl (.tmp 71) (.tmp 72) rfl w1.heap.size _ [] rfl ?q1 ao b 0 cap zs rfl HN.out ?q2 ?q3 ?q4 ?q5 ?_)
          case q1 => exact Own.lit [] HB4.out.size (by simp)
          case q2 => exact hrq.out.keep (HB4.out.trans ((Below.refl _ _).alloc HB4.out.size _)) (Nat.le_refl _)
          case q3 => simp
          case q4 => omega
          case q5 => rw [World.size_alloc]; exact Nat.le_succ_of_le HB4.out.size
          intro v5 w5 hO5 hB5 _
          have HO5 := Lib.hid hO5
          have HB5 := Lib.hid (HB4.out.trans (((Below.refl _ _).alloc HB4.out.size (.cells #[] 3)).trans hB5))
          clear hO5 hB5
          go_wp2_with (at_builtin; refine wpList_app1 rfl (.tmp 73) (.tmp 75) rfl w1.heap.size _ zs rfl HO5.out (2 ^ k) rfl rfl ?r1 ?r2 ?_)
          case r1 => omega
          case r2 => exact HB5.out.size
          intro v6 w6 hO6 hB6 _
          obtain ⟨ys6, hys6⟩ : ∃ ys, zs ++ [2 ^ k] = ys := ⟨_, rfl⟩
          rw [hys6] at hO6
          obtain ⟨ao6, b6, cap6, hv6, _, hcl6, hrow6, _, _⟩ := hO6.row
          subst hv6
          have hvl6 : vldB (k : Int) ys6 = false := by rw [← hys6]; exact vld_snoc_f (.inr (by simp))
          have hle6 : ys6.length ≤ 9223372036854775807 := by rw [← hys6]; simp; omega
          have HR6 := Lib.hid hrow6
          have HB6 := Lib.hid (HB5.out.trans hB6)
          clear hrow6 hB6 hO6 hys6
          go_wp2_with fail
          have ct := validI (k : Int) ao6 b6 0 cap6 ys6 w6 HR6.out hle6
          rw [hvl6] at ct
          have Ct := Lib.hid ct
          clear ct hvl6 hle6
          refine Ct.out.mono ?_
          rintro e w' ⟨rfl, rfl⟩
          clear Ct
          go_wp2_with fail
          go_ret
          exact ⟨rfl, hBq.out.trans (HB6.out.mono HB.out.size)⟩
  · by_cases h0 : xs0.length ≤ 1048576
    all_goals
      go_enter Try.func4, Try.ntmps4
      go_wp2_with fail
      go_ret
      exact ⟨rfl, Below.refl _ _⟩

end Go.Proofs.Ytcijlkhkcopciaa
