/-
  The walks of laws on ranks: FnRankAll, FnTellsTwo.
-/
import Derived.Test.YtjglikccikeejaaAskV
import Derived.Test.YtjglikccikeejaaAskSafe
import Derived.Test.YtjglikccikeejaaDrawA
import Derived.Deep.RegionLaw
import Derived.Deep.DeepCutAuto
namespace Go.Proofs.Ytjglikccikeejaa
open Go.RowKit
open Go.AskMath (rnk tel tld)

set_option maxRecDepth 100000 in
set_option maxHeartbeats 1000000 in
theorem walkRankAll (a0 : Option Addr) (b0 o0 c0 : Nat) (xs0 : List Int) (a1 : Option Addr) (b1 o1 c1 : Nat) (xs1 : List Int) (w : World)
    (hr0 : Row .u8 w a0 b0 o0 xs0) (hl0 : xs0.length ≤ c0 ∧ c0 ≤ 9223372036854775807) (hw0 : ∀ i, i < xs0.length → (Lit.int .u8 (xs0.getD i 0)).wf = true)
    (_hr1 : Row .u8 w a1 b1 o1 xs1) (hl1 : xs1.length ≤ c1 ∧ c1 ≤ 9223372036854775807) (_hw1 : ∀ i, i < xs1.length → (Lit.int .u8 (xs1.getD i 0)).wf = true) :
    Calls Try.prog 7 #[.slice a0 xs0.length c0, .slice a1 xs1.length c1] w fun e w' => e = .returned (.bool true) ∧ Below w.heap.size w w' := by
  obtain ⟨hl01, hl02⟩ := hl0
  obtain ⟨hl11, hl12⟩ := hl1
  by_cases h20 : xs0.length ≤ 1048576 ∧ xs1.length ≤ 1048576
  · obtain ⟨h20, h21⟩ := h20
    go_enter Try.func7, Try.ntmps7
    go_wp2_with fail
    refine (drawRank_any a0 b0 o0 c0 xs0 w hr0 hl01 hw0 hl02).mono ?_
    rintro e w1 ⟨n, v, zs, rfl, hzl, hO, hB⟩
    obtain ⟨ao, b, cap, rfl, hcap, hcap2, hrow, hnil, hao⟩ := hO.row2
    have HAO := Lib.hid hao
    have HN := Lib.hid hnil
    have HR1 := Lib.hid hrow
    have HB1 := Lib.hid hB
    clear hO hnil hrow hB hao hr0 hw0
    obtain ⟨z, hz⟩ : ∃ z : Int, (if vldB n zs then (rnk n.toNat zs : Int) else -1) = z := ⟨_, rfl⟩
    have HZ := Lib.hid hz
    clear hz
    go_wp2_with fail
    refine (askRankI n ao b 0 cap zs _ HR1.out (by omega)).mono ?_
    rw [HZ.out]
    rintro e w2 ⟨rfl, hb2⟩
    have HB2 := Lib.hid (HB1.out.trans (hb2.mono HB1.out.size))
    have HR2 := Lib.hid (HR1.out.keep hb2 (Nat.le_refl _))
    clear hb2 HB1 HR1
    go_wp2_with fail
    refine (askRankS n ao b 0 cap zs _ HR2.out (by omega)).mono ?_
    rw [HZ.out]
    rintro e w3 ⟨rfl, hb3⟩
    have HB3 := Lib.hid (HB2.out.trans (hb3.mono HB2.out.size))
    have HR3 := Lib.hid (HR2.out.keep hb3 (Nat.le_refl _))
    clear hb3 HB2 HR2
    have hzz : (z != z) = false := by simp
    cases hv : vldB n zs with
    | false =>
      have hz1 : z = -1 := by rw [← HZ.out, hv]; rfl
      subst hz1
      clear hv
      go_wp2_with fail
      all_goals
        go_ret
        exact ⟨rfl, HB3.out⟩
    | true =>
      obtain ⟨m, rfl, hm1, hm6, hx12, hx⟩ := vld_range hv
      obtain ⟨r, hr⟩ : ∃ r, rnk m zs = r := ⟨_, rfl⟩
      have hz1 : z = (r : Int) := by rw [← HZ.out, hv, ← hr]; rfl
      subst hz1
      have HX := Lib.hid hx
      have HV := Lib.hid hv
      have HRE := Lib.hid hr
      clear hx hv hr HZ
      have hrm : r ≤ m := by rw [← HRE.out]; exact Go.AskMath.rnk_le m zs
      obtain ⟨K, hK⟩ : ∃ K, xs1.length % (m + 1) = K := ⟨_, rfl⟩
      have hKm : K < (m + 1) := by rw [← hK]; exact Nat.mod_lt _ (by omega)
      have hKe : (xs1.length : Int) % ((m : Int) + 1) = (K : Int) := by rw [← hK]; rfl
      have HKE := Lib.hid hKe
      clear hK hKe
      have HO0 := Lib.hid (Own.lit (w := w3) (base := w3.heap.size) [] (Nat.le_refl _) (by simp))
      have HB0 := Lib.hid ((Below.refl w3.heap.size w3).alloc (Nat.le_refl _) (.cells #[] 3))
      obtain ⟨B0, hB0⟩ : ∃ B0, w3.heap.size = B0 := ⟨_, rfl⟩
      have HBE := Lib.hid hB0
      rw [hB0] at HO0 HB0
      go_wp2_with fail
      clear hB0
      go_loopw [9, 10, 11] (fun v p i wr => ∃ k : Nat, k ≤ m ∧ i = .int .i64 k ∧ p = .int .i64 (2 ^ k) ∧ Own wr B0 v ((List.range k).map Go.AskMath.unit) ∧ Below B0 w3 wr) (fun _ _ i _ => m - (intOf i).toNat)
      case atStart => exact ⟨0, Nat.zero_le _, rfl, rfl, HO0.out, HB0.out⟩
      case round =>
        clear HO0 HB0
        obtain ⟨k, hk, rfl, rfl, hO, hB⟩ := hrel
        have HO := Lib.hid hO
        have HB := Lib.hid hB
        have hsz : B0 ≤ wr.heap.size := by have := hB.size; rw [HBE.out] at this; exact this
        clear hO hB
        by_cases hlt : k < m
        · have h2 : (2 : Int) ^ k * 2 = 2 ^ (k + 1) := (Int.pow_succ 2 k).symm
          have H : Hid (wrap64 ((2 : Int) ^ k * 2) = 2 ^ (k + 1)) := by
            show wrap64 ((2 : Int) ^ k * 2) = 2 ^ (k + 1)
            rw [h2]
            have h0 : (0 : Int) ≤ 2 ^ (k + 1) := Int.pow_nonneg (by omega)
            exact IntWalk.wrap64_in _ ⟨by omega, two_le (by omega)⟩
          clear h2
          have hll : ((List.range k).map Go.AskMath.unit).length ≤ 1000 := by simp; omega
          go_wp2_with (at_builtin; refine wpList_app1 rfl (.tmp 48) (.tmp 50) rfl B0 _ _ rfl HO.out (2 ^ k) rfl rfl (by omega) hsz ?_)
          intro v4 w4 hO4 hB4 _
          have HO4 := Lib.hid hO4
          have HB4 := Lib.hid (HB.out.trans hB4)
          clear hO4 hB4
          go_wp2_with fail
          go_roundw
          case rel =>
            refine ⟨k + 1, by omega, by go_num, int_eq H.out, ?_, HB4.out⟩
            rw [List.range_succ, List.map_append, List.map_singleton]
            exact HO4.out
          case measure => simp [intOf]; omega
        · obtain rfl : k = m := by omega
          obtain ⟨ax, bx, cx, rfl, hxc, hxc2, hrx, _, _⟩ := HO.out.row2
          have hvx := vld_units hm1 hm6 (Nat.le_refl k)
          have hvk := vld_units hm1 hm6 (show K ≤ k by omega)
          have hrx1 := Go.AskMath.rnk_units (Nat.le_refl k)
          have hrk := Go.AskMath.rnk_units (show K ≤ k by omega)
          rw [← units_take (show K ≤ k by omega)] at hvk hrk
          have hxl : ((List.range k).map Go.AskMath.unit).length = k := by simp
          obtain ⟨X, hX⟩ : ∃ X, (List.range k).map Go.AskMath.unit = X := ⟨_, rfl⟩
          rw [hX] at hvx hvk hrx1 hrk hxl hrx hxc ⊢
          have htk : (X.take K).length = K := by rw [List.length_take]; omega
          have hkx : k ≤ cx := by omega
          have HRX := Lib.hid hrx
          have HVX := Lib.hid (show _ ∧ _ ∧ _ ∧ _ from ⟨hvx, hvk, hrx1, hrk⟩)
          have HTK := Lib.hid htk
          have HB4 := Lib.hid (HB3.out.trans (HB.out.mono (by rw [← HBE.out]; exact HB3.out.size)))
          clear hX hvx hvk hrx1 hrk hrx htk HO hxl hxc
          go_wp2_with fail
          rw [HKE.out]
          refine (askRankV k k ax bx 0 cx X _ HRX.out HVX.out.1 HVX.out.2.2.1).mono ?_
          rintro e w5 ⟨rfl, hb5⟩
          have HB5 := Lib.hid (HB4.out.trans (hb5.mono HB4.out.size))
          have HR5 := Lib.hid (HRX.out.keep hb5 (Nat.le_refl _))
          have hkz : (K : Int) ≤ (cx : Int) := by omega
          have hkc : K ≤ cx := by omega
          have hKk : (k == k) = true := by simp
          clear hb5
          go_wp2_with fail
          have ct := askRankV k K ax bx 0 cx (X.take K) _ (HR5.out.take K) HVX.out.2.1 HVX.out.2.2.2
          rw [HTK.out] at ct
          have Ct := Lib.hid ct
          clear ct
          refine Ct.out.mono ?_
          rintro e w6 ⟨rfl, hb6⟩
          have HB6 := Lib.hid (HB5.out.trans (hb6.mono HB5.out.size))
          have hrkI : (r : Int) ≤ (k : Int) := by omega
          clear hb6 Ct
          go_wp2_with fail
          go_ret
          exact ⟨rfl, HB6.out⟩
  · by_cases h0 : xs0.length ≤ 1048576
    all_goals
      go_enter Try.func7, Try.ntmps7
      go_wp2_with fail
      go_ret
      exact ⟨rfl, Below.refl _ _⟩

set_option maxRecDepth 100000 in
set_option maxHeartbeats 1000000 in
theorem walkTellsTwo (a0 : Option Addr) (b0 o0 c0 : Nat) (xs0 : List Int) (a1 : Option Addr) (b1 o1 c1 : Nat) (xs1 : List Int) (w : World)
    (hr0 : Row .u8 w a0 b0 o0 xs0) (hl0 : xs0.length ≤ c0 ∧ c0 ≤ 9223372036854775807) (hw0 : ∀ i, i < xs0.length → (Lit.int .u8 (xs0.getD i 0)).wf = true)
    (_hr1 : Row .u8 w a1 b1 o1 xs1) (hl1 : xs1.length ≤ c1 ∧ c1 ≤ 9223372036854775807) (_hw1 : ∀ i, i < xs1.length → (Lit.int .u8 (xs1.getD i 0)).wf = true) :
    Calls Try.prog 14 #[.slice a0 xs0.length c0, .slice a1 xs1.length c1] w fun e w' => e = .returned (.bool true) ∧ Below w.heap.size w w' := by
  obtain ⟨hl01, hl02⟩ := hl0
  obtain ⟨hl11, hl12⟩ := hl1
  by_cases h20 : xs0.length ≤ 1048576 ∧ xs1.length ≤ 1048576
  · obtain ⟨h20, h21⟩ := h20
    go_enter Try.func14, Try.ntmps14
    go_wp2_with fail
    refine (drawRank_any a0 b0 o0 c0 xs0 w hr0 hl01 hw0 hl02).mono ?_
    rintro e w1 ⟨n, v, zs, rfl, hzl, hO, hB⟩
    obtain ⟨ao, b, cap, rfl, hcap, hcap2, hrow, hnil, hao⟩ := hO.row2
    have HAO := Lib.hid hao
    have HN := Lib.hid hnil
    have HR1 := Lib.hid hrow
    have HB1 := Lib.hid hB
    clear hO hnil hrow hB hao hr0 hw0
    obtain ⟨z, hz⟩ : ∃ z : Int, (if vldB n zs then (rnk n.toNat zs : Int) else -1) = z := ⟨_, rfl⟩
    have HZ := Lib.hid hz
    clear hz
    go_wp2_with fail
    refine (askRankI n ao b 0 cap zs _ HR1.out (by omega)).mono ?_
    rw [HZ.out]
    rintro e w2 ⟨rfl, hb2⟩
    have HB2 := Lib.hid (HB1.out.trans (hb2.mono HB1.out.size))
    have HR2 := Lib.hid (HR1.out.keep hb2 (Nat.le_refl _))
    clear hb2 HB1 HR1
    go_wp2_with fail
    refine (askRankS n ao b 0 cap zs _ HR2.out (by omega)).mono ?_
    rw [HZ.out]
    rintro e w3 ⟨rfl, hb3⟩
    have HB3 := Lib.hid (HB2.out.trans (hb3.mono HB2.out.size))
    have HR3 := Lib.hid (HR2.out.keep hb3 (Nat.le_refl _))
    clear hb3 HB2 HR2
    have hzz : (z != z) = false := by simp
    cases hv : vldB n zs with
    | false =>
      have hz1 : z = -1 := by rw [← HZ.out, hv]; rfl
      subst hz1
      clear hv
      go_wp2_with fail
      all_goals
        go_ret
        exact ⟨rfl, HB3.out⟩
    | true =>
      obtain ⟨m, rfl, hm1, hm6, hx12, hx⟩ := vld_range hv
      obtain ⟨r, hr⟩ : ∃ r, rnk m zs = r := ⟨_, rfl⟩
      have hz1 : z = (r : Int) := by rw [← HZ.out, hv, ← hr]; rfl
      subst hz1
      have HX := Lib.hid hx
      have HV := Lib.hid hv
      have HRE := Lib.hid hr
      clear hx hv hr HZ
      obtain ⟨K, hK⟩ : ∃ K, xs1.length % m = K := ⟨_, rfl⟩
      have hKm : K < m := by rw [← hK]; exact Nat.mod_lt _ (by omega)
      have hKe : (xs1.length : Int) % (m : Int) = (K : Int) := by rw [← hK]; rfl
      have HKE := Lib.hid hKe
      clear hK hKe
      have hm0 : (0 : Int) < (m : Int) := by omega
      go_wp2_with fail
      rw [HKE.out]
      go_loop [10, 11, 12] (fun p o i => ∃ k : Nat, k ≤ m ∧ i = .int .i64 k ∧ p = .int .i64 (2 ^ k) ∧ o = .int .i64 (if K < k then 2 ^ K else 1)) (fun _ _ i => m - (intOf i).toNat)
      case atStart => exact ⟨0, Nat.zero_le _, rfl, rfl, by rw [if_neg (by omega)]⟩
      case round =>
        obtain ⟨k, hk, rfl, rfl, rfl⟩ := hrel
        obtain ⟨o, ho⟩ : ∃ o : Int, (if K < k then 2 ^ K else 1) = o := ⟨_, rfl⟩
        rw [ho]
        have HO := Lib.hid ho
        clear ho
        by_cases hlt : k < m
        · have h2 : (2 : Int) ^ k * 2 = 2 ^ (k + 1) := (Int.pow_succ 2 k).symm
          have H : Hid (wrap64 ((2 : Int) ^ k * 2) = 2 ^ (k + 1)) := by
            show wrap64 ((2 : Int) ^ k * 2) = 2 ^ (k + 1)
            rw [h2]
            have h0 : (0 : Int) ≤ 2 ^ (k + 1) := Int.pow_nonneg (by omega)
            exact IntWalk.wrap64_in _ ⟨by omega, two_le (by omega)⟩
          clear h2
          by_cases hkK : k = K
          · subst hkK
            have hb1 : (k == k) = true := by simp
            have hb2 : ((k : Int) == (k : Int)) = true := by simp
            go_wp2_with fail
            go_round
            case rel => exact ⟨k + 1, by omega, by go_num, int_eq H.out, by rw [if_pos (by omega)]⟩
            case measure => simp [intOf]; omega
          · have hb1 : (k == K) = false := by rw [beq_eq_false_iff_ne]; exact hkK
            have hb2 : ((k : Int) == (K : Int)) = false := by rw [beq_eq_false_iff_ne]; omega
            have HKK := Lib.hid hkK
            clear hkK
            go_wp2_with fail
            go_round
            case rel =>
              refine ⟨k + 1, by omega, by go_num, int_eq H.out, ?_⟩
              have := HKK.out
              rw [← HO.out]
              by_cases hh : K < k
              · rw [if_pos hh, if_pos (by omega)]
              · rw [if_neg hh, if_neg (by omega)]
            case measure => simp [intOf]; omega
        · obtain rfl : k = m := by omega
          have hoK : o = 2 ^ K := by rw [← HO.out, if_pos hKm]
          subst hoK
          have hpu := unit_range hm6 hKm
          rw [Int.toNat_natCast] at hpu
          have hP6 : (2 : Int) ^ k ≤ 64 := pow_le (a := 2) (k := k) (n := 6) (by decide) hm6
          have hlow : k ≥ 2 → (2 : Int) ^ K + 2 ≤ 2 ^ k := fun h => by
            have h4 : (4 : Int) ≤ 2 ^ k := by have := pow_le (a := 2) (k := 2) (n := k) (by decide) h; simpa using this
            have h5 := pow_le (a := 2) (k := K + 1) (n := k) (by decide) (by omega)
            rw [Int.pow_succ] at h5
            omega
          have HTW := Lib.hid (fun (xs : List Int) h1 h2 => Go.AskMath.tel_two (n := k) (i := K) (xs := xs) hKm h1 h2)
          have hPe : (2 : Int) ^ (k : Int).toNat = 2 ^ k := by rw [Int.toNat_natCast]
          obtain ⟨P, hP⟩ : ∃ P : Int, (2 : Int) ^ k = P := ⟨_, rfl⟩
          obtain ⟨Q, hQ⟩ : ∃ Q : Int, (2 : Int) ^ K = Q := ⟨_, rfl⟩
          rw [hP, hQ] at hpu hlow HTW
          rw [hP] at hP6 hPe
          rw [hP, hQ]
          have HPE := Lib.hid hPe
          have HLOW := Lib.hid hlow
          clear hP hQ HO hPe hlow
          by_cases hcut : k < 2 ∨ zs.length + 2 > 12
          · have hr0 : (0 : Int) ≤ (r : Int) := by omega
            rcases hcut with h | h
            · have hc1 : (k : Int) < 2 := by omega
              go_wp2_with fail
              go_ret
              exact ⟨rfl, HB3.out⟩
            · by_cases hk2 : k < 2
              · go_wp2_with fail
                go_ret
                exact ⟨rfl, HB3.out⟩
              · have hd : decide ((zs.length : Int) + 2 > 12) = true := by simp; omega
                have hd2 : (12 : Int) < (zs.length : Int) + 2 := by omega
                go_wp2_with fail
                go_ret
                exact ⟨rfl, HB3.out⟩
          · have hk2 : ¬ k < 2 := by omega
            have hl2 := HLOW.out (by omega)
            have hz10 : zs.length ≤ 10 := by omega
            clear hcut HLOW
            have HB4 := Lib.hid ((Below.refl w3.heap.size w3).alloc (Nat.le_refl _) (.cells #[] 3))
            have HO0 := Lib.hid (Own.lit (w := w3) (base := w3.heap.size) [] (Nat.le_refl _) (by simp))
            have HR4 := Lib.hid (HR3.out.keep HB4.out (Nat.le_refl _))
            go_wp2_with (at_builtin; refine wpList_appL rfl (.tmp 68) (.tmp 69) rfl w3.heap.size _ [] rfl HO0.out ao b 0 cap zs rfl HN.out HR4.out (by simp) (by omega) HB4.out.size ?_)
            intro v5 w5 hO5 hB5 _
            have HO5 := Lib.hid hO5
            have HB5 := Lib.hid (HB4.out.trans hB5)
            clear hO5 hB5 HO0 HB4 HR4
            go_wp2_with (at_builtin; refine wpList_appL rfl (.tmp 70) (.tmp 77) rfl w3.heap.size _ zs rfl (HO5.out.alloc _) (some ⟨w5.heap.size, 0, none⟩) w5.heap.size 0 2 [P - 1, P - 1 - Q] rfl (fun h => by cases h) (rowL w5 [P - 1, P - 1 - Q]) (by omega) (by simp) (HB5.out.alloc (by have := HB5.out.size; omega) _).size ?_)
            intro v6 w6 hO6 hB6 _
            have hvy : vldB k (zs ++ [P - 1, P - 1 - Q]) = true := vld_app HV.out (fun q hq => by
              simp only [List.mem_cons, List.not_mem_nil, or_false] at hq
              rw [HPE.out]
              rcases hq with rfl | rfl <;> omega) (by simp; omega)
            have hty : tel k (zs ++ [P - 1, P - 1 - Q]) K = true := HTW.out _ (by simp) (by simp)
            obtain ⟨ys, hys⟩ : ∃ ys, zs ++ [P - 1, P - 1 - Q] = ys := ⟨_, rfl⟩
            rw [hys] at hO6 hvy hty
            obtain ⟨ao2, b2, cap2, rfl, _, _, hr2, hn2, _⟩ := hO6.row2
            have HR6 := Lib.hid hr2
            have HN6 := Lib.hid hn2
            have HB6 := Lib.hid (HB3.out.trans (((HB5.out.alloc HB5.out.size _).trans hB6).mono HB3.out.size))
            have hyl : ys.length ≤ 9223372036854775807 := by have := (vld_iff.1 hvy).2.2.1; omega
            have HTE := Lib.hid (show (vldB k ys && (decide (0 ≤ (K : Int) ∧ (K : Int) < k) && tel (k : Int).toNat ys (K : Int).toNat)) = true by
              rw [hvy, decide_eq_true (show 0 ≤ (K : Int) ∧ (K : Int) < k by omega)]
              simp only [Int.toNat_natCast, hty, Bool.and_self])
            clear hO6 hr2 hn2 hB6 hvy hty hys
            go_wp2_with fail
            refine (askTellsI k K ao2 b2 0 cap2 ys _ HR6.out HN6.out hyl).mono ?_
            rw [HTE.out]
            rintro e w7 ⟨rfl, hb7⟩
            have HB7 := Lib.hid (HB6.out.trans (hb7.mono HB6.out.size))
            clear hb7
            go_wp2_with fail
            go_ret
            exact ⟨rfl, HB7.out⟩
  · by_cases h0 : xs0.length ≤ 1048576
    all_goals
      go_enter Try.func14, Try.ntmps14
      go_wp2_with fail
      go_ret
      exact ⟨rfl, Below.refl _ _⟩

end Go.Proofs.Ytjglikccikeejaa
