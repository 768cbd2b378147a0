/-
  The walks of laws on ranks: FnRankTwo, FnTellsOne.
-/
import Derived.Test.YtjglikccikeejaaAskV
import Derived.Test.YtjglikccikeejaaAskSafe
import Derived.Test.YtjglikccikeejaaDrawA
import Derived.Deep.RegionLaw
import Derived.Deep.DeepCutAuto
namespace Go.Proofs.Ytjglikccikeejaa
open Go.RowKit
open Go.AskMath (rnk tel tld)

set_option maxRecDepth 100000 in
set_option maxHeartbeats 4000000 in
theorem walkRankTwo (a0 : Option Addr) (b0 o0 c0 : Nat) (xs0 : List Int) (a1 : Option Addr) (b1 o1 c1 : Nat) (xs1 : List Int) (w : World)
    (hr0 : Row .u8 w a0 b0 o0 xs0) (hl0 : xs0.length ≤ c0 ∧ c0 ≤ 9223372036854775807) (hw0 : ∀ i, i < xs0.length → (Lit.int .u8 (xs0.getD i 0)).wf = true)
    (_hr1 : Row .u8 w a1 b1 o1 xs1) (hl1 : xs1.length ≤ c1 ∧ c1 ≤ 9223372036854775807) (_hw1 : ∀ i, i < xs1.length → (Lit.int .u8 (xs1.getD i 0)).wf = true) :
    Calls Try.prog 9 #[.slice a0 xs0.length c0, .slice a1 xs1.length c1] w fun e w' => e = .returned (.bool true) ∧ Below w.heap.size w w' := by
  obtain ⟨hl01, hl02⟩ := hl0
  obtain ⟨hl11, hl12⟩ := hl1
  by_cases h20 : xs0.length ≤ 1048576 ∧ xs1.length ≤ 1048576
  · obtain ⟨h20, h21⟩ := h20
    go_enter Try.func9, Try.ntmps9
    go_wp2_with fail
    refine (drawRank_any a0 b0 o0 c0 xs0 w hr0 hl01 hw0 hl02).mono ?_
    rintro e w1 ⟨n, v, zs, rfl, hzl, hO, hB⟩
    obtain ⟨ao, b, cap, rfl, hcap, hcap2, hrow, hnil, hao⟩ := hO.row2
    have HAO := Lib.hid hao
    have HN := Lib.hid hnil
    have HR1 := Lib.hid hrow
    have HB1 := Lib.hid hB
    clear hO hnil hrow hB hao hr0 hw0
    obtain ⟨z, hz⟩ : ∃ z : Int, (if vldB n zs then (rnk n.toNat zs : Int) else -1) = z := ⟨_, rfl⟩
    have HZ := Lib.hid hz
    clear hz
    go_wp2_with fail
    refine (askRankI n ao b 0 cap zs _ HR1.out (by omega)).mono ?_
    rw [HZ.out]
    rintro e w2 ⟨rfl, hb2⟩
    have HB2 := Lib.hid (HB1.out.trans (hb2.mono HB1.out.size))
    have HR2 := Lib.hid (HR1.out.keep hb2 (Nat.le_refl _))
    clear hb2 HB1 HR1
    go_wp2_with fail
    refine (askRankS n ao b 0 cap zs _ HR2.out (by omega)).mono ?_
    rw [HZ.out]
    rintro e w3 ⟨rfl, hb3⟩
    have HB3 := Lib.hid (HB2.out.trans (hb3.mono HB2.out.size))
    have HR3 := Lib.hid (HR2.out.keep hb3 (Nat.le_refl _))
    clear hb3 HB2 HR2
    have hzz : (z != z) = false := by simp
    cases hv : vldB n zs with
    | false =>
      have hz1 : z = -1 := by rw [← HZ.out, hv]; rfl
      subst hz1
      clear hv
      go_wp2_with fail
      all_goals
        go_ret
        exact ⟨rfl, HB3.out⟩
    | true =>
      obtain ⟨m, rfl, hm1, hm6, hx12, hx⟩ := vld_range hv
      obtain ⟨r, hr⟩ : ∃ r, rnk m zs = r := ⟨_, rfl⟩
      have hz1 : z = (r : Int) := by rw [← HZ.out, hv, ← hr]; rfl
      subst hz1
      have HX := Lib.hid hx
      have HV := Lib.hid hv
      have HRE := Lib.hid hr
      clear hx hv hr HZ
      go_wp2_with fail
      go_loop [9, 10] (fun p i => ∃ k : Nat, k ≤ m ∧ i = .int .i64 k ∧ p = .int .i64 (2 ^ k)) (fun _ i => m - (intOf i).toNat)
      case atStart => exact ⟨0, Nat.zero_le _, rfl, rfl⟩
      case round =>
        obtain ⟨k, hk, rfl, rfl⟩ := hrel
        by_cases hlt : k < m
        · have h2 : (2 : Int) ^ k * 2 = 2 ^ (k + 1) := (Int.pow_succ 2 k).symm
          have H : Hid (wrap64 ((2 : Int) ^ k * 2) = 2 ^ (k + 1)) := by
            show wrap64 ((2 : Int) ^ k * 2) = 2 ^ (k + 1)
            rw [h2]
            have h0 : (0 : Int) ≤ 2 ^ (k + 1) := Int.pow_nonneg (by omega)
            exact IntWalk.wrap64_in _ ⟨by omega, two_le (by omega)⟩
          clear h2
          go_wp2_with fail
          go_round
          case rel => exact ⟨k + 1, by omega, by go_num, int_eq H.out⟩
          case measure => simp [intOf]; omega
        · obtain rfl : k = m := by omega
          have hP2 : (2 : Int) ≤ 2 ^ k := by have := pow_le (a := 2) (k := 1) (n := k) (by decide) hm1; simpa using this
          have hP6 : (2 : Int) ^ k ≤ 64 := pow_le (a := 2) (k := k) (n := 6) (by decide) hm6
          obtain ⟨P, hP⟩ : ∃ P : Int, (2 : Int) ^ k = P := ⟨_, rfl⟩
          rw [hP] at hP2 hP6 ⊢
          have hA0 : 0 ≤ (xs1.length : Int) % (P - 1) := Int.emod_nonneg _ (by omega)
          have hA1 : (xs1.length : Int) % (P - 1) < P - 1 := Int.emod_lt_of_pos _ (by omega)
          have hB0 : 0 ≤ (xs1.length : Int) / 7 % (P - 1) := Int.emod_nonneg _ (by omega)
          have hB1 : (xs1.length : Int) / 7 % (P - 1) < P - 1 := Int.emod_lt_of_pos _ (by omega)
          have HP := Lib.hid hP
          clear hP
          go_wp2_with fail
          obtain ⟨A, hA⟩ : ∃ A : Int, (xs1.length : Int) % (P - 1) = A := ⟨_, rfl⟩
          obtain ⟨B, hB⟩ : ∃ B : Int, (xs1.length : Int) / 7 % (P - 1) = B := ⟨_, rfl⟩
          rw [hA] at hA0 hA1
          rw [hB] at hB0 hB1
          rw [hA, hB]
          clear hA hB
          have hva : vldB k [1 + A] = true := vld_iff.2 ⟨by omega, by omega, by simp, fun q hq => by
            simp only [List.mem_singleton] at hq
            rw [hq, Int.toNat_natCast, HP.out]; omega⟩
          have hvab : vldB k [1 + A, 1 + B] = true := vld_iff.2 ⟨by omega, by omega, by simp, fun q hq => by
            simp only [List.mem_cons, List.not_mem_nil, or_false] at hq
            rw [Int.toNat_natCast, HP.out]
            rcases hq with rfl | rfl <;> omega⟩
          have hra : rnk k [1 + A] = 1 := Go.AskMath.rnk_one (by omega) (by rw [HP.out]; omega)
          have hrab : rnk k [1 + A, 1 + B] = 1 ↔ 1 + A = 1 + B := Go.AskMath.rnk_two (by omega) (by rw [HP.out]; omega) (by omega) (by rw [HP.out]; omega)
          obtain ⟨z2, hz2⟩ : ∃ z2, rnk k [1 + A, 1 + B] = z2 := ⟨_, rfl⟩
          rw [hz2] at hrab
          have HVA := Lib.hid hva
          have HRA := Lib.hid hra
          have HRAB := Lib.hid hrab
          have hb4 := (Below.refl w3.heap.size w3).alloc (Nat.le_refl _) (.cells #[.int .i64 (1 + A), .int .i64 (1 + B)] 3)
          have HB4 := Lib.hid (HB3.out.trans (hb4.mono HB3.out.size))
          refine (askRankV k z2 (some ⟨w3.heap.size, 0, none⟩) w3.heap.size 0 2 [1 + A, 1 + B] _ (rowL w3 [1 + A, 1 + B]) hvab hz2).mono ?_
          rintro e w4 ⟨rfl, hb5⟩
          have HB5 := Lib.hid (HB4.out.trans (hb5.mono HB4.out.size))
          clear hva hvab hra hrab hz2 hb4 hb5
          go_wp2_with fail
          have hb6 := (Below.refl w4.heap.size w4).alloc (Nat.le_refl _) (.cells #[.int .i64 (1 + A)] 3)
          have HB6 := Lib.hid (HB5.out.trans (hb6.mono HB5.out.size))
          refine (askRankV k 1 (some ⟨w4.heap.size, 0, none⟩) w4.heap.size 0 1 [1 + A] _ (rowL w4 [1 + A]) HVA.out HRA.out).mono ?_
          rintro e w5 ⟨rfl, hb7⟩
          have HB7 := Lib.hid (HB6.out.trans (hb7.mono HB6.out.size))
          clear hb6 hb7
          by_cases hAB : A = B
          · subst hAB
            have hz1 : z2 = 1 := HRAB.out.2 rfl
            subst hz1
            have hAA : (1 + A == 1 + A) = true := by simp
            go_wp2_with fail
            go_ret
            exact ⟨rfl, HB7.out⟩
          · have hz1 : z2 ≠ 1 := fun h => hAB (by have := HRAB.out.1 h; omega)
            have hz2 : (z2 == 1) = false := by rw [beq_eq_false_iff_ne]; exact hz1
            have hz3 : ((z2 : Int) == 1) = false := by rw [beq_eq_false_iff_ne]; omega
            have hAA : (1 + A == 1 + B) = false := by rw [beq_eq_false_iff_ne]; omega
            clear hz1 hAB
            go_wp2_with fail
            go_ret
            exact ⟨rfl, HB7.out⟩
  · by_cases h0 : xs0.length ≤ 1048576
    all_goals
      go_enter Try.func9, Try.ntmps9
      go_wp2_with fail
      go_ret
      exact ⟨rfl, Below.refl _ _⟩

set_option maxRecDepth 100000 in
set_option maxHeartbeats 4000000 in
theorem walkTellsOne (a0 : Option Addr) (b0 o0 c0 : Nat) (xs0 : List Int) (a1 : Option Addr) (b1 o1 c1 : Nat) (xs1 : List Int) (w : World)
    (hr0 : Row .u8 w a0 b0 o0 xs0) (hl0 : xs0.length ≤ c0 ∧ c0 ≤ 9223372036854775807) (hw0 : ∀ i, i < xs0.length → (Lit.int .u8 (xs0.getD i 0)).wf = true)
    (_hr1 : Row .u8 w a1 b1 o1 xs1) (hl1 : xs1.length ≤ c1 ∧ c1 ≤ 9223372036854775807) (_hw1 : ∀ i, i < xs1.length → (Lit.int .u8 (xs1.getD i 0)).wf = true) :
    Calls Try.prog 13 #[.slice a0 xs0.length c0, .slice a1 xs1.length c1] w fun e w' => e = .returned (.bool true) ∧ Below w.heap.size w w' := by
  obtain ⟨hl01, hl02⟩ := hl0
  obtain ⟨hl11, hl12⟩ := hl1
  by_cases h20 : xs0.length ≤ 1048576 ∧ xs1.length ≤ 1048576
  · obtain ⟨h20, h21⟩ := h20
    go_enter Try.func13, Try.ntmps13
    go_wp2_with fail
    refine (drawRank_any a0 b0 o0 c0 xs0 w hr0 hl01 hw0 hl02).mono ?_
    rintro e w1 ⟨n, v, zs, rfl, hzl, hO, hB⟩
    obtain ⟨ao, b, cap, rfl, hcap, hcap2, hrow, hnil, hao⟩ := hO.row2
    have HAO := Lib.hid hao
    have HN := Lib.hid hnil
    have HR1 := Lib.hid hrow
    have HB1 := Lib.hid hB
    clear hO hnil hrow hB hao hr0 hw0
    obtain ⟨z, hz⟩ : ∃ z : Int, (if vldB n zs then (rnk n.toNat zs : Int) else -1) = z := ⟨_, rfl⟩
    have HZ := Lib.hid hz
    clear hz
    go_wp2_with fail
    refine (askRankI n ao b 0 cap zs _ HR1.out (by omega)).mono ?_
    rw [HZ.out]
    rintro e w2 ⟨rfl, hb2⟩
    have HB2 := Lib.hid (HB1.out.trans (hb2.mono HB1.out.size))
    have HR2 := Lib.hid (HR1.out.keep hb2 (Nat.le_refl _))
    clear hb2 HB1 HR1
    go_wp2_with fail
    refine (askRankS n ao b 0 cap zs _ HR2.out (by omega)).mono ?_
    rw [HZ.out]
    rintro e w3 ⟨rfl, hb3⟩
    have HB3 := Lib.hid (HB2.out.trans (hb3.mono HB2.out.size))
    have HR3 := Lib.hid (HR2.out.keep hb3 (Nat.le_refl _))
    clear hb3 HB2 HR2
    have hzz : (z != z) = false := by simp
    cases hv : vldB n zs with
    | false =>
      have hz1 : z = -1 := by rw [← HZ.out, hv]; rfl
      subst hz1
      clear hv
      go_wp2_with fail
      all_goals
        go_ret
        exact ⟨rfl, HB3.out⟩
    | true =>
      obtain ⟨m, rfl, hm1, hm6, hx12, hx⟩ := vld_range hv
      obtain ⟨r, hr⟩ : ∃ r, rnk m zs = r := ⟨_, rfl⟩
      have hz1 : z = (r : Int) := by rw [← HZ.out, hv, ← hr]; rfl
      subst hz1
      have HX := Lib.hid hx
      have HV := Lib.hid hv
      have HRE := Lib.hid hr
      clear hx hv hr HZ
      obtain ⟨K, hK⟩ : ∃ K, xs1.length % m = K := ⟨_, rfl⟩
      have hKm : K < m := by rw [← hK]; exact Nat.mod_lt _ (by omega)
      have hKe : (xs1.length : Int) % (m : Int) = (K : Int) := by rw [← hK]; rfl
      have HKE := Lib.hid hKe
      have hm0 : (0 : Int) < (m : Int) := by omega
      clear hK hKe
      go_wp2_with fail
      rw [HKE.out]
      go_loop [10, 11] (fun p i => ∃ k : Nat, k ≤ K ∧ i = .int .i64 k ∧ p = .int .i64 (2 ^ k)) (fun _ i => K - (intOf i).toNat)
      case atStart => exact ⟨0, Nat.zero_le _, rfl, rfl⟩
      case round =>
        obtain ⟨k, hk, rfl, rfl⟩ := hrel
        by_cases hlt : k < K
        · have h2 : (2 : Int) ^ k * 2 = 2 ^ (k + 1) := (Int.pow_succ 2 k).symm
          have H : Hid (wrap64 ((2 : Int) ^ k * 2) = 2 ^ (k + 1)) := by
            show wrap64 ((2 : Int) ^ k * 2) = 2 ^ (k + 1)
            rw [h2]
            have h0 : (0 : Int) ≤ 2 ^ (k + 1) := Int.pow_nonneg (by omega)
            exact IntWalk.wrap64_in _ ⟨by omega, two_le (by omega)⟩
          clear h2
          go_wp2_with fail
          go_round
          case rel => exact ⟨k + 1, by omega, by go_num, int_eq H.out⟩
          case measure => simp [intOf]; omega
        · obtain rfl : k = K := by omega
          have hpu := unit_range hm6 hKm
          obtain ⟨P, hP⟩ : ∃ P : Int, (2 : Int) ^ k = P := ⟨_, rfl⟩
          rw [hP] at hpu ⊢
          have HP := Lib.hid hP
          clear hP
          by_cases h12 : zs.length = 12
          · have h12b : (zs.length == 12) = true := by rw [beq_iff_eq]; exact h12
            have h12c : ((zs.length : Int) == 12) = true := by rw [beq_iff_eq]; omega
            go_wp2_with fail
            go_ret
            exact ⟨rfl, HB3.out⟩
          · have h12b : (zs.length == 12) = false := by rw [beq_eq_false_iff_ne]; exact h12
            have h12c : ((zs.length : Int) == 12) = false := by rw [beq_eq_false_iff_ne]; omega
            have HB4 := Lib.hid ((Below.refl w3.heap.size w3).alloc (Nat.le_refl _) (.cells #[] 3))
            have HO0 := Lib.hid (Own.lit (w := w3) (base := w3.heap.size) [] (Nat.le_refl _) (by simp))
            have HR4 := Lib.hid (HR3.out.keep HB4.out (Nat.le_refl _))
            go_wp2_with (at_builtin; refine wpList_appL rfl (.tmp 57) (.tmp 58) rfl w3.heap.size _ [] rfl HO0.out ao b 0 cap zs rfl HN.out HR4.out (by simp) (by omega) HB4.out.size ?_)
            intro v5 w5 hO5 hB5 _
            have HO5 := Lib.hid hO5
            have HB5 := Lib.hid (HB4.out.trans hB5)
            clear hO5 hB5 HO0 HB4 HR4
            go_wp2_with (at_builtin; refine wpList_app1 rfl (.tmp 59) (.tmp 61) rfl w3.heap.size _ zs rfl HO5.out P rfl rfl (by omega) HB5.out.size ?_)
            intro v6 w6 hO6 hB6 _
            have hvy : vldB m (zs ++ [P]) = true := vld_app HV.out (fun q hq => by rw [List.mem_singleton] at hq; rw [hq]; exact hpu) (by simp; omega)
            have hty : tel m (zs ++ [P]) k = true := Go.AskMath.tel_unit (by rw [← HP.out]; exact List.mem_append_right _ (List.mem_singleton.2 rfl))
            obtain ⟨ys, hys⟩ : ∃ ys, zs ++ [P] = ys := ⟨_, rfl⟩
            rw [hys] at hO6 hvy hty
            obtain ⟨ao2, b2, cap2, rfl, _, _, hr2, hn2, _⟩ := hO6.row2
            have HR6 := Lib.hid hr2
            have HN6 := Lib.hid hn2
            have HB6 := Lib.hid (HB3.out.trans ((HB5.out.trans hB6).mono HB3.out.size))
            have hyl : ys.length ≤ 9223372036854775807 := by have := (vld_iff.1 hvy).2.2.1; omega
            have HTE := Lib.hid (show (vldB m ys && (decide (0 ≤ (k : Int) ∧ (k : Int) < m) && tel (m : Int).toNat ys (k : Int).toNat)) = true by
              rw [hvy, decide_eq_true (show 0 ≤ (k : Int) ∧ (k : Int) < m by omega)]
              simp only [Int.toNat_natCast, hty, Bool.and_self])
            clear hO6 hr2 hn2 hB6 hvy hty hys
            go_wp2_with fail
            refine (askTellsI m k ao2 b2 0 cap2 ys _ HR6.out HN6.out hyl).mono ?_
            rw [HTE.out]
            rintro e w7 ⟨rfl, hb7⟩
            have HB7 := Lib.hid (HB6.out.trans (hb7.mono HB6.out.size))
            clear hb7
            go_wp2_with fail
            go_ret
            exact ⟨rfl, HB7.out⟩
  · by_cases h0 : xs0.length ≤ 1048576
    all_goals
      go_enter Try.func13, Try.ntmps13
      go_wp2_with fail
      go_ret
      exact ⟨rfl, Below.refl _ _⟩

end Go.Proofs.Ytjglikccikeejaa
