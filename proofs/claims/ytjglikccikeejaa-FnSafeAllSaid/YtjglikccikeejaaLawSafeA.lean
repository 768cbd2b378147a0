/-
  The walk of the law FnSafeAll.
-/
import Derived.Test.YtjglikccikeejaaAskV
import Derived.Test.YtjglikccikeejaaAskSafe
import Derived.Test.YtjglikccikeejaaDrawA
import Derived.Deep.RegionLaw
import Derived.Deep.DeepCutAuto
namespace Go.Proofs.Ytjglikccikeejaa
open Go.RowKit
open Go.AskMath (rnk tel tld)

set_option maxRecDepth 100000 in
set_option maxHeartbeats 1000000 in
theorem walkSafeAll (a0 : Option Addr) (b0 o0 c0 : Nat) (xs0 : List Int) (a1 : Option Addr) (b1 o1 c1 : Nat) (xs1 : List Int) (w : World)
    (hr0 : Row .u8 w a0 b0 o0 xs0) (hl0 : xs0.length ≤ c0 ∧ c0 ≤ 9223372036854775807) (hw0 : ∀ i, i < xs0.length → (Lit.int .u8 (xs0.getD i 0)).wf = true)
    (_hr1 : Row .u8 w a1 b1 o1 xs1) (hl1 : xs1.length ≤ c1 ∧ c1 ≤ 9223372036854775807) (_hw1 : ∀ i, i < xs1.length → (Lit.int .u8 (xs1.getD i 0)).wf = true) :
    Calls Try.prog 5 #[.slice a0 xs0.length c0, .slice a1 xs1.length c1] w fun e w' => e = .returned (.bool true) ∧ Below w.heap.size w w' := by
  obtain ⟨hl01, hl02⟩ := hl0
  obtain ⟨hl11, hl12⟩ := hl1
  by_cases h20 : xs0.length ≤ 1048576 ∧ xs1.length ≤ 1048576
  · obtain ⟨h20, h21⟩ := h20
    go_enter Try.func5, Try.ntmps5
    go_wp2_with fail
    refine (drawValid_any a0 b0 o0 c0 xs0 w hr0 hl01 hw0 hl02).mono ?_
    rintro e w1 ⟨n, v, zs, rfl, hzl, hO, hB⟩
    obtain ⟨ao, b, cap, rfl, hcap, hcap2, hrow, hnil, hao⟩ := hO.row2
    have HAO := Lib.hid hao
    have HN := Lib.hid hnil
    have HR1 := Lib.hid hrow
    have HB1 := Lib.hid hB
    clear hO hnil hrow hB hao hr0 hw0
    obtain ⟨z, hz⟩ : ∃ z : Bool, (vldB n zs) = z := ⟨_, rfl⟩
    have HZ := Lib.hid hz
    clear hz
    go_wp2_with fail
    refine (validI n ao b 0 cap zs _ HR1.out (by omega)).mono ?_
    rw [HZ.out]
    rintro e w2 ⟨rfl, rfl⟩
    have HB2 := HB1
    have HR2 := HR1
    go_wp2_with fail
    refine (validS n ao b 0 cap zs _ HR2.out (by omega)).mono ?_
    rw [HZ.out]
    rintro e w3 ⟨rfl, q3, hw3⟩
    have HB3 := Lib.hid (show Below w.heap.size w w3 from hw3 ▸ below_drewN HB2.out q3)
    have HR3 := Lib.hid (show Row .i64 w3 ao b 0 zs from hw3 ▸ HR2.out.drewN q3)
    clear HB1 HR1 HB2 HR2 hw3
    have hzz : (z != z) = false := by simp
    cases hv : z with
    | false =>
      subst hv
      go_wp2_with fail
      all_goals
        go_ret
        exact ⟨rfl, HB3.out⟩
    | true =>
      subst hv
      obtain ⟨m, rfl, hm1, hm6, hx12, hx⟩ := vld_range HZ.out
      have HX := Lib.hid hx
      have HV := HZ
      clear hx HZ
      obtain ⟨K, hK⟩ : ∃ K, xs1.length % m = K := ⟨_, rfl⟩
      have hKm : K < m := by rw [← hK]; exact Nat.mod_lt _ (by omega)
      have hKe : (xs1.length : Int) % (m : Int) = (K : Int) := by rw [← hK]; rfl
      have HKE := Lib.hid hKe
      have hm0 : (0 : Int) < (m : Int) := by omega
      clear hK hKe
      go_wp2_with fail
      go_loop [9, 10] (fun p i => ∃ k : Nat, k ≤ m ∧ i = .int .i64 k ∧ p = .int .i64 (2 ^ k)) (fun _ i => m - (intOf i).toNat)
      case atStart => exact ⟨0, Nat.zero_le _, rfl, rfl⟩
      case round =>
        obtain ⟨k, hk, rfl, rfl⟩ := hrel
        by_cases hlt : k < m
        · have h2 : (2 : Int) ^ k * 2 = 2 ^ (k + 1) := (Int.pow_succ 2 k).symm
          have H : Hid (wrap64 ((2 : Int) ^ k * 2) = 2 ^ (k + 1)) := by
            show wrap64 ((2 : Int) ^ k * 2) = 2 ^ (k + 1)
            rw [h2]
            have h0 : (0 : Int) ≤ 2 ^ (k + 1) := Int.pow_nonneg (by omega)
            exact IntWalk.wrap64_in _ ⟨by omega, two_le (by omega)⟩
          clear h2
          go_wp2_with fail
          go_round
          case rel => exact ⟨k + 1, by omega, by go_num, int_eq H.out⟩
          case measure => simp [intOf]; omega
        · obtain rfl : k = m := by omega
          go_wp2_with fail
          go_loop [11, 12] (fun p i => ∃ j : Nat, j ≤ K ∧ i = .int .i64 j ∧ p = .int .i64 (2 ^ j)) (fun _ i => K - (intOf i).toNat)
          case atStart => exact ⟨0, Nat.zero_le _, rfl, rfl⟩
          case round =>
            obtain ⟨j, hj, rfl, rfl⟩ := hrel
            have hke := HKE.out
            by_cases hjk : j < K
            · have h2 : (2 : Int) ^ j * 2 = 2 ^ (j + 1) := (Int.pow_succ 2 j).symm
              have H : Hid (wrap64 ((2 : Int) ^ j * 2) = 2 ^ (j + 1)) := by
                show wrap64 ((2 : Int) ^ j * 2) = 2 ^ (j + 1)
                rw [h2]
                have h0 : (0 : Int) ≤ 2 ^ (j + 1) := Int.pow_nonneg (by omega)
                exact IntWalk.wrap64_in _ ⟨by omega, two_le (by omega)⟩
              have hjI : (j : Int) < (xs1.length : Int) % (k : Int) := by omega
              clear h2 hke
              go_wp2_with fail
              go_round
              case rel => exact ⟨j + 1, by omega, by go_num, int_eq H.out⟩
              case measure => simp [intOf]; omega
            · obtain rfl : j = K := by omega
              have hjI : ¬ ((j : Int) < (xs1.length : Int) % (k : Int)) := by omega
              have hpu := unit_range hm6 hKm
              have hP6 : (2 : Int) ^ k ≤ 64 := pow_le (a := 2) (k := k) (n := 6) (by decide) hm6
              have hPe : (2 : Int) ^ (k : Int).toNat = 2 ^ k := by rw [Int.toNat_natCast]
              rw [hPe] at hpu
              have HS1 := Lib.hid (fun (h2 : 2 ≤ k) => (show safeB (k : Int) [] (2 ^ k - 1) = true by
                have hv : vldB (k : Int) ([] ++ [(2 : Int) ^ k - 1]) = true := vld_iff.2 ⟨by omega, by omega, by simp, fun q hq => by
                  simp only [List.nil_append, List.mem_singleton] at hq
                  rw [hq, hPe]; omega⟩
                unfold safeB
                rw [hv, if_pos rfl]
                simp only [List.nil_append, Int.toNat_natCast, Go.AskMath.tld_full h2]
                rfl))
              have HS2 := Lib.hid (show safeB (k : Int) [] (2 ^ j) = false by
                have hv : vldB (k : Int) ([] ++ [(2 : Int) ^ j]) = true := vld_iff.2 ⟨by omega, by omega, by simp, fun q hq => by
                  simp only [List.nil_append, List.mem_singleton] at hq
                  rw [hq, hPe]; omega⟩
                unfold safeB
                rw [hv, if_pos rfl]
                have h0 : tld k ([] ++ [(2 : Int) ^ j]) k ≠ 0 := Go.AskMath.tld_unit hKm (by simp [Go.AskMath.unit])
                simp only [Int.toNat_natCast]
                rw [beq_eq_false_iff_ne]
                omega)
              obtain ⟨P, hP⟩ : ∃ P : Int, (2 : Int) ^ k = P := ⟨_, rfl⟩
              obtain ⟨Q, hQ⟩ : ∃ Q : Int, (2 : Int) ^ j = Q := ⟨_, rfl⟩
              rw [hP] at hP6 HS1 hpu
              rw [hQ] at HS2 hpu
              rw [hP, hQ]
              clear hP hQ hPe hke HKE
              by_cases hk2 : k < 2
              · have hsz := HB3.out.size
                have HB4 := Lib.hid (HB3.out.alloc hsz (.cells #[] 3))
                go_wp2_with fail
                refine (askSafeI k Q (some ⟨w3.heap.size, 0, none⟩) w3.heap.size 0 0 [] _ Row.nil (fun h => by cases h) (by simp)).mono ?_
                rw [HS2.out]
                rintro e w5 ⟨rfl, hb5⟩
                have HB5 := Lib.hid (HB4.out.trans (hb5.mono HB4.out.size))
                clear hb5
                go_wp2_with fail
                go_ret
                exact ⟨rfl, HB5.out⟩
              · have hs1 := HS1.out (by omega)
                have HS1 := Lib.hid hs1
                have hP4 : P - 1 ≤ 63 := by omega
                have hsz := HB3.out.size
                have HB4 := Lib.hid (HB3.out.alloc hsz (.cells #[] 3))
                clear hs1
                go_wp2_with fail
                refine (askSafeI k (P - 1) (some ⟨w3.heap.size, 0, none⟩) w3.heap.size 0 0 [] _ Row.nil (fun h => by cases h) (by simp)).mono ?_
                rw [HS1.out]
                rintro e w5 ⟨rfl, hb5⟩
                have HB5 := Lib.hid (HB4.out.trans (hb5.mono HB4.out.size))
                have HB6 := Lib.hid (HB5.out.alloc HB5.out.size (.cells #[] 3))
                clear hb5
                go_wp2_with fail
                refine (askSafeI k Q (some ⟨w5.heap.size, 0, none⟩) w5.heap.size 0 0 [] _ Row.nil (fun h => by cases h) (by simp)).mono ?_
                rw [HS2.out]
                rintro e w7 ⟨rfl, hb7⟩
                have HB7 := Lib.hid (HB6.out.trans (hb7.mono HB6.out.size))
                clear hb7
                go_wp2_with fail
                go_ret
                exact ⟨rfl, HB7.out⟩
  · by_cases h0 : xs0.length ≤ 1048576
    all_goals
      go_enter Try.func5, Try.ntmps5
      go_wp2_with fail
      go_ret
      exact ⟨rfl, Below.refl _ _⟩

end Go.Proofs.Ytjglikccikeejaa
