/-
  The walks of laws on the next question: FnAskNextLess, FnAskNext, FnAskNextEnd.
-/
import Derived.Test.YtjglikccikeejabAskV
import Derived.Test.YtjglikccikeejabDrawS
namespace Go.Proofs.Ytjglikccikeejab
open Go.RowKit
open Go.AskMath (rnk tel tld)

set_option maxRecDepth 100000 in
set_option maxHeartbeats 1000000 in
theorem walkAskNextLess (a0 : Option Addr) (b0 o0 c0 : Nat) (xs0 : List Int) (w : World)
    (hr0 : Row .u8 w a0 b0 o0 xs0) (hl0 : xs0.length ≤ c0 ∧ c0 ≤ 9223372036854775807) (hw0 : ∀ i, i < xs0.length → (Lit.int .u8 (xs0.getD i 0)).wf = true) :
    Calls Try.prog 12 #[.slice a0 xs0.length c0] w fun e w' => e = .returned (.bool true) ∧ Below w.heap.size w w' := by
  obtain ⟨hl01, hl02⟩ := hl0
  by_cases h20 : xs0.length ≤ 1048576
  · skip
    go_enter Try.func12, Try.ntmps12
    go_wp2_with fail
    refine (drawNext_any a0 b0 o0 c0 xs0 w hr0 hl01 hw0 hl02).mono ?_
    rintro e w1 ⟨n, v, zs, rfl, hzl, hO, hB⟩
    obtain ⟨ao, b, cap, rfl, hcap, hcap2, hrow, hnil, hao⟩ := hO.row2
    have HAO := Lib.hid hao
    have HN := Lib.hid hnil
    have HR1 := Lib.hid hrow
    have HB1 := Lib.hid hB
    clear hO hnil hrow hB hao hr0 hw0
    obtain ⟨z, hz⟩ : ∃ z : Nat, (nxt n zs) = z := ⟨_, rfl⟩
    have HZ := Lib.hid hz
    clear hz
    go_wp2_with fail
    refine (askNextI n ao b 0 cap zs _ HR1.out HN.out (by omega)).mono ?_
    rw [HZ.out]
    rintro e w2 ⟨rfl, hb2⟩
    have HB2 := Lib.hid (HB1.out.trans (hb2.mono HB1.out.size))
    have HR2 := Lib.hid (HR1.out.keep hb2 (Nat.le_refl _))
    clear hb2 HB1 HR1
    go_wp2_with fail
    refine (askNextS n ao b 0 cap zs _ HR2.out HN.out (by omega)).mono ?_
    rw [HZ.out]
    rintro e w3 ⟨rfl, hb3⟩
    have HB3 := Lib.hid (HB2.out.trans (hb3.mono HB2.out.size))
    have HR3 := Lib.hid (HR2.out.keep hb3 (Nat.le_refl _))
    clear hb3 HB2 HR2
    have hzz : ((z : Int) != (z : Int)) = false := by simp
    have hzb : ((z != 0) != (z != 0)) = false := by simp
    by_cases hv : z = 0
    · subst hv
      go_wp2_with fail
      all_goals
        go_ret
        exact ⟨rfl, HB3.out⟩
    · have hzn : (z != 0) = true := by rw [bne_iff_ne]; exact hv
      have HS := Lib.hid (nxt_spec (show nxt n zs ≠ 0 by rw [HZ.out]; exact hv))
      obtain ⟨hvv, hs0, hrr⟩ := good_t HS.out.2.2.1
      rw [HZ.out] at HS
      have HVV := Lib.hid hvv
      obtain ⟨m, rfl, hm1, hm6, hx12, hx⟩ := vld_range (vld_front hvv)
      have HX := Lib.hid hx
      have HV := Lib.hid (vld_front hvv)
      clear hx hvv hs0 hrr hv
      have hz1 : 1 ≤ z := HS.out.1
      have hz2 : (z : Int) < 2 ^ m := by
        have h := HS.out.2.1
        rw [Int.toNat_natCast] at h
        have := pow_nat m
        omega
      have hz64 : z ≤ 64 := by have h64 : (2 : Int) ^ m ≤ 64 := pow_le (a := 2) (k := m) (n := 6) (by decide) hm6; omega
      have HZ2 := Lib.hid hz2
      have hz1I : (1 : Int) ≤ (z : Int) := by omega
      clear hz2

      have HNM := Lib.hid (show (z : Int) ∉ zs by rw [← HZ.out]; exact nxt_not_mem (by rw [HZ.out]; omega))
      go_wp2_with fail
      go_loop [9, 10] (fun p i => ∃ k : Nat, k ≤ m ∧ i = .int .i64 k ∧ p = .int .i64 (2 ^ k)) (fun _ i => m - (intOf i).toNat)
      case atStart => exact ⟨0, Nat.zero_le _, rfl, rfl⟩
      case round =>
        obtain ⟨k, hk, rfl, rfl⟩ := hrel
        by_cases hlt : k < m
        · have h2 : (2 : Int) ^ k * 2 = 2 ^ (k + 1) := (Int.pow_succ 2 k).symm
          have H : Hid (wrap64 ((2 : Int) ^ k * 2) = 2 ^ (k + 1)) := by
            show wrap64 ((2 : Int) ^ k * 2) = 2 ^ (k + 1)
            rw [h2]
            have h0 : (0 : Int) ≤ 2 ^ (k + 1) := Int.pow_nonneg (by omega)
            exact IntWalk.wrap64_in _ ⟨by omega, two_le (by omega)⟩
          clear h2
          go_wp2_with fail
          go_round
          case rel => exact ⟨k + 1, by omega, by go_num, int_eq H.out⟩
          case measure => simp [intOf]; omega
        · obtain rfl : k = m := by omega
          have hz2 := HZ2.out
          obtain ⟨P, hP⟩ : ∃ P : Int, (2 : Int) ^ k = P := ⟨_, rfl⟩
          rw [hP] at hz2
          rw [hP]
          clear hP HZ2
          go_wp2_with fail
          go_loop [11] (fun i => ∃ j : Nat, j ≤ zs.length ∧ i = .int .i64 j) (fun i => zs.length - (intOf i).toNat)
          case atStart => exact ⟨0, Nat.zero_le _, rfl⟩
          case round =>
            obtain ⟨j, hj, rfl⟩ := hrel
            by_cases hjl : j < zs.length
            · obtain rfl : ao = some ⟨b, 0, none⟩ := HR3.out.1 (by omega)
              obtain ⟨y, hy⟩ : ∃ y, zs.getD j 0 = y := ⟨_, rfl⟩
              have hc := HR3.out.2 j hjl
              rw [hy, Nat.zero_add] at hc
              have hne : (y == (z : Int)) = false := by
                rw [beq_eq_false_iff_ne]
                rintro e
                refine HNM.out ?_
                rw [← e, ← hy, List.getD_eq_getElem?_getD, List.getElem?_eq_getElem hjl]
                exact List.getElem_mem hjl
              have hji : (j : Int) < (zs.length : Int) := by omega
              clear hy
              go_wp2_with fail
              go_round
              case rel => exact ⟨j + 1, by omega, by go_num⟩
              case measure => simp [intOf]; omega
            · obtain rfl : j = zs.length := by omega
              go_wp2_with fail
              go_ret
              exact ⟨rfl, HB3.out⟩
  · go_enter Try.func12, Try.ntmps12
    go_wp2_with fail
    go_ret
    exact ⟨rfl, Below.refl _ _⟩

set_option maxRecDepth 100000 in
set_option maxHeartbeats 1000000 in
theorem walkAskNext (a0 : Option Addr) (b0 o0 c0 : Nat) (xs0 : List Int) (w : World)
    (hr0 : Row .u8 w a0 b0 o0 xs0) (hl0 : xs0.length ≤ c0 ∧ c0 ≤ 9223372036854775807) (hw0 : ∀ i, i < xs0.length → (Lit.int .u8 (xs0.getD i 0)).wf = true) :
    Calls Try.prog 13 #[.slice a0 xs0.length c0] w fun e w' => e = .returned (.bool true) ∧ Below w.heap.size w w' := by
  obtain ⟨hl01, hl02⟩ := hl0
  by_cases h20 : xs0.length ≤ 1048576
  · skip
    go_enter Try.func13, Try.ntmps13
    go_wp2_with fail
    refine (drawNext_any a0 b0 o0 c0 xs0 w hr0 hl01 hw0 hl02).mono ?_
    rintro e w1 ⟨n, v, zs, rfl, hzl, hO, hB⟩
    obtain ⟨ao, b, cap, rfl, hcap, hcap2, hrow, hnil, hao⟩ := hO.row2
    have HAO := Lib.hid hao
    have HN := Lib.hid hnil
    have HR1 := Lib.hid hrow
    have HB1 := Lib.hid hB
    clear hO hnil hrow hB hao hr0 hw0
    obtain ⟨z, hz⟩ : ∃ z : Nat, (nxt n zs) = z := ⟨_, rfl⟩
    have HZ := Lib.hid hz
    clear hz
    go_wp2_with fail
    refine (askNextI n ao b 0 cap zs _ HR1.out HN.out (by omega)).mono ?_
    rw [HZ.out]
    rintro e w2 ⟨rfl, hb2⟩
    have HB2 := Lib.hid (HB1.out.trans (hb2.mono HB1.out.size))
    have HR2 := Lib.hid (HR1.out.keep hb2 (Nat.le_refl _))
    clear hb2 HB1 HR1
    go_wp2_with fail
    refine (askNextS n ao b 0 cap zs _ HR2.out HN.out (by omega)).mono ?_
    rw [HZ.out]
    rintro e w3 ⟨rfl, hb3⟩
    have HB3 := Lib.hid (HB2.out.trans (hb3.mono HB2.out.size))
    have HR3 := Lib.hid (HR2.out.keep hb3 (Nat.le_refl _))
    clear hb3 HB2 HR2
    have hzz : ((z : Int) != (z : Int)) = false := by simp
    have hzb : ((z != 0) != (z != 0)) = false := by simp
    by_cases hv : z = 0
    · subst hv
      go_wp2_with fail
      all_goals
        go_ret
        exact ⟨rfl, HB3.out⟩
    · have hzn : (z != 0) = true := by rw [bne_iff_ne]; exact hv
      have HS := Lib.hid (nxt_spec (show nxt n zs ≠ 0 by rw [HZ.out]; exact hv))
      obtain ⟨hvv, hs0, hrr⟩ := good_t HS.out.2.2.1
      rw [HZ.out] at HS
      have HVV := Lib.hid hvv
      obtain ⟨m, rfl, hm1, hm6, hx12, hx⟩ := vld_range (vld_front hvv)
      have HX := Lib.hid hx
      have HV := Lib.hid (vld_front hvv)
      clear hx hvv hs0 hrr hv
      have hz1 : 1 ≤ z := HS.out.1
      have hz2 : (z : Int) < 2 ^ m := by
        have h := HS.out.2.1
        rw [Int.toNat_natCast] at h
        have := pow_nat m
        omega
      have hz64 : z ≤ 64 := by have h64 : (2 : Int) ^ m ≤ 64 := pow_le (a := 2) (k := m) (n := 6) (by decide) hm6; omega
      have HZ2 := Lib.hid hz2
      have hz1I : (1 : Int) ≤ (z : Int) := by omega
      clear hz2

      obtain ⟨r, hr⟩ : ∃ r, rnk m zs = r := ⟨_, rfl⟩
      have HRE := Lib.hid hr
      have HRK := Lib.hid (show rnk m (zs ++ [(z : Int)]) = r + 1 by rw [← hr]; have := nxt_rank (n := m) (xs := zs) (by rw [HZ.out]; omega); rw [HZ.out] at this; exact this)
      have HGF := Lib.hid HS.out.2.2.2
      have hl11 : zs.length ≤ 11 := by have := (vld_iff.1 HVV.out).2.2.1; rw [HZ.out] at this; simp at this; omega
      clear hr
      go_wp2_with fail
      refine (askRankV m r ao b 0 cap zs _ HR3.out HV.out HRE.out).mono ?_
      rintro e w4 ⟨rfl, hb4⟩
      have HB4 := Lib.hid (HB3.out.trans (hb4.mono HB3.out.size))
      have HR4 := Lib.hid (HR3.out.keep hb4 (Nat.le_refl _))
      clear hb4
      go_wp2_with fail
      go_loopw [10] (fun i wr => ∃ q : Nat, 1 ≤ q ∧ q ≤ z ∧ i = .int .i64 q ∧ Row .i64 wr ao b 0 zs ∧ Below w.heap.size w wr) (fun i _ => z - (intOf i).toNat)
      case atStart => exact ⟨1, Nat.le_refl _, hz1, rfl, HR4.out, HB4.out⟩
      case round =>
        clear HR4 HB4 HR3 HB3
        obtain ⟨q, hq1, hq2, rfl, hR, hB⟩ := hrel
        have HR3 := Lib.hid hR
        have HB3 := Lib.hid hB
        clear hR hB
        by_cases hqz : q < z
        · have hgf := HGF.out q hq1 hqz
          rw [good_of] at hgf
          have HG := Lib.hid hgf
          clear hgf
          go_wp2_with fail
          refine (askSafeI m q ao b 0 cap zs _ HR3.out HN.out (by omega)).mono ?_
          cases hs : safeB m zs q with
          | false =>
            rintro e w5 ⟨rfl, hb5⟩
            have HB5 := Lib.hid (HB3.out.trans (hb5.mono HB3.out.size))
            have HR5 := Lib.hid (HR3.out.keep hb5 (Nat.le_refl _))
            clear hb5 hs
            go_wp2_with fail
            go_roundw
            case rel => exact ⟨q + 1, by omega, by omega, by go_num, HR5.out, HB5.out⟩
            case measure => simp [intOf]; omega
          | true =>
            rintro e w5 ⟨rfl, hb5⟩
            have HB5 := Lib.hid (HB3.out.trans (hb5.mono HB3.out.size))
            have HR5 := Lib.hid (HR3.out.keep hb5 (Nat.le_refl _))
            have hvq := (safe_t hs).1
            have hrr : rnk m (zs ++ [(q : Int)]) ≤ r := by
              have h := HG.out
              rw [hs, Bool.true_and, decide_eq_false_iff_not, Int.toNat_natCast, HRE.out] at h
              omega
            have HVQ := Lib.hid hvq
            clear hb5 hs hvq HB3 HR3
            have HBa := Lib.hid ((Below.refl w5.heap.size w5).alloc (Nat.le_refl _) (.cells #[] 3))
            have HOa := Lib.hid (Own.lit (w := w5) (base := w5.heap.size) [] (Nat.le_refl _) (by simp))
            have HRa := Lib.hid (HR5.out.keep HBa.out (Nat.le_refl _))
            go_wp2_with (at_builtin; refine wpList_appL rfl (.tmp 65) (.tmp 66) rfl w5.heap.size _ [] rfl HOa.out ao b 0 cap zs rfl HN.out HRa.out (by simp) (by omega) HBa.out.size ?_)
            intro va wa hOa hBa _
            have HOb := Lib.hid hOa
            have HBb := Lib.hid (HBa.out.trans hBa)
            clear hOa hBa HOa HBa HRa
            go_wp2_with (at_builtin; refine wpList_app1 rfl (.tmp 67) (.tmp 69) rfl w5.heap.size _ zs rfl HOb.out (q : Int) rfl rfl (by omega) HBb.out.size ?_)
            intro vb wb hOb hBb _
            obtain ⟨ys, hys⟩ : ∃ ys, zs ++ [(q : Int)] = ys := ⟨_, rfl⟩
            have hyl : ys.length = zs.length + 1 := by rw [← hys]; simp
            have HYL := Lib.hid hyl
            rw [hys] at hOb
            obtain ⟨ay, by_, cy, rfl, hyc, hyc2, hyr, hyn, hya⟩ := hOb.row2
            have HYO := Lib.hid hOb
            have HYS := Lib.hid hys
            have HYR := Lib.hid hyr
            have HYN := Lib.hid hyn
            have HYA := Lib.hid hya
            have HYB := Lib.hid (HB5.out.trans ((HBb.out.trans hBb).mono HB5.out.size))
            have HRb := Lib.hid (HR5.out.keep (HBb.out.trans hBb) (Nat.le_refl _))
            have HYSZ := Lib.hid (HBb.out.trans hBb).size
            clear hys hyr hyn hya hOb hBb HOb HBb hyl

            rw [HYS.out] at hrr
            have HVQ2 := Lib.hid (show vldB m ys = true by rw [← HYS.out]; exact HVQ.out)
            obtain ⟨r2, hr2⟩ : ∃ r2, rnk m ys = r2 := ⟨_, rfl⟩
            rw [hr2] at hrr
            have HR2E := Lib.hid hr2
            have hn1 : ¬ (r < r2) := by omega
            have hn2 : ¬ ((r : Int) < (r2 : Int)) := by omega
            clear hr2 hrr
            go_wp2_with fail
            refine (askRankV m r2 ay by_ 0 cy ys _ HYR.out HVQ2.out HR2E.out).mono ?_
            rintro e w6 ⟨rfl, hb6⟩
            have HB6 := Lib.hid (HYB.out.trans (hb6.mono HYB.out.size))
            have HR6 := Lib.hid (HRb.out.keep hb6 (Nat.le_refl _))
            clear hb6
            go_wp2_with fail
            go_roundw
            case rel => exact ⟨q + 1, by omega, by omega, by go_num, HR6.out, HB6.out⟩
            case measure => simp [intOf]; omega
        · obtain rfl : q = z := by omega
          have hsq : safeB m zs q = true := by
            have h := HS.out.2.2.1
            rw [good_of, Bool.and_eq_true] at h
            exact h.1
          have HSQ := Lib.hid hsq
          have HVQ := Lib.hid (safe_t hsq).1
          clear hsq
          go_wp2_with fail
          refine (askSafeI m q ao b 0 cap zs _ HR3.out HN.out (by omega)).mono ?_
          rw [HSQ.out]
          rintro e w5 ⟨rfl, hb5⟩
          have HB5 := Lib.hid (HB3.out.trans (hb5.mono HB3.out.size))
          have HR5 := Lib.hid (HR3.out.keep hb5 (Nat.le_refl _))
          clear hb5 HB3 HR3
          have HBa := Lib.hid ((Below.refl w5.heap.size w5).alloc (Nat.le_refl _) (.cells #[] 3))
          have HOa := Lib.hid (Own.lit (w := w5) (base := w5.heap.size) [] (Nat.le_refl _) (by simp))
          have HRa := Lib.hid (HR5.out.keep HBa.out (Nat.le_refl _))
          go_wp2_with (at_builtin; refine wpList_appL rfl (.tmp 81) (.tmp 82) rfl w5.heap.size _ [] rfl HOa.out ao b 0 cap zs rfl HN.out HRa.out (by simp) (by omega) HBa.out.size ?_)
          intro va wa hOa hBa _
          have HOb := Lib.hid hOa
          have HBb := Lib.hid (HBa.out.trans hBa)
          clear hOa hBa HOa HBa HRa
          go_wp2_with (at_builtin; refine wpList_app1 rfl (.tmp 83) (.tmp 85) rfl w5.heap.size _ zs rfl HOb.out (q : Int) rfl rfl (by omega) HBb.out.size ?_)
          intro vb wb hOb hBb _
          obtain ⟨ys, hys⟩ : ∃ ys, zs ++ [(q : Int)] = ys := ⟨_, rfl⟩
          have hyl : ys.length = zs.length + 1 := by rw [← hys]; simp
          have HYL := Lib.hid hyl
          rw [hys] at hOb
          obtain ⟨ay, by_, cy, rfl, hyc, hyc2, hyr, hyn, hya⟩ := hOb.row2
          have HYO := Lib.hid hOb
          have HYS := Lib.hid hys
          have HYR := Lib.hid hyr
          have HYN := Lib.hid hyn
          have HYA := Lib.hid hya
          have HYB := Lib.hid (HB5.out.trans ((HBb.out.trans hBb).mono HB5.out.size))
          have HRb := Lib.hid (HR5.out.keep (HBb.out.trans hBb) (Nat.le_refl _))
          have HYSZ := Lib.hid (HBb.out.trans hBb).size
          clear hys hyr hyn hya hOb hBb HOb HBb hyl

          have HVQ2 := Lib.hid (show vldB m ys = true by rw [← HYS.out]; exact HVQ.out)
          have HR2E := Lib.hid (show rnk m ys = r + 1 by rw [← HYS.out]; exact HRK.out)
          have hrm : r ≤ 6 := by have := Go.AskMath.rnk_le m zs; rw [HRE.out] at this; omega
          go_wp2_with fail
          refine (askRankV m (r + 1) ay by_ 0 cy ys _ HYR.out HVQ2.out HR2E.out).mono ?_
          rintro e w6 ⟨rfl, hb6⟩
          have HB6 := Lib.hid (HYB.out.trans (hb6.mono HYB.out.size))
          clear hb6
          go_wp2_with fail
          go_ret
          exact ⟨by simp, HB6.out⟩
  · go_enter Try.func13, Try.ntmps13
    go_wp2_with fail
    go_ret
    exact ⟨rfl, Below.refl _ _⟩

set_option maxRecDepth 100000 in
set_option maxHeartbeats 1000000 in
theorem walkAskNextEnd (a0 : Option Addr) (b0 o0 c0 : Nat) (xs0 : List Int) (w : World)
    (hr0 : Row .u8 w a0 b0 o0 xs0) (hl0 : xs0.length ≤ c0 ∧ c0 ≤ 9223372036854775807) (hw0 : ∀ i, i < xs0.length → (Lit.int .u8 (xs0.getD i 0)).wf = true) :
    Calls Try.prog 14 #[.slice a0 xs0.length c0] w fun e w' => e = .returned (.bool true) ∧ Below w.heap.size w w' := by
  obtain ⟨hl01, hl02⟩ := hl0
  by_cases h20 : xs0.length ≤ 1048576
  · skip
    go_enter Try.func14, Try.ntmps14
    go_wp2_with fail
    refine (drawNext_any a0 b0 o0 c0 xs0 w hr0 hl01 hw0 hl02).mono ?_
    rintro e w1 ⟨n, v, zs, rfl, hzl, hO, hB⟩
    obtain ⟨ao, b, cap, rfl, hcap, hcap2, hrow, hnil, hao⟩ := hO.row2
    have HAO := Lib.hid hao
    have HN := Lib.hid hnil
    have HR1 := Lib.hid hrow
    have HB1 := Lib.hid hB
    clear hO hnil hrow hB hao hr0 hw0
    obtain ⟨z, hz⟩ : ∃ z : Nat, (nxt n zs) = z := ⟨_, rfl⟩
    have HZ := Lib.hid hz
    clear hz
    go_wp2_with fail
    refine (askNextI n ao b 0 cap zs _ HR1.out HN.out (by omega)).mono ?_
    rw [HZ.out]
    rintro e w2 ⟨rfl, hb2⟩
    have HB2 := Lib.hid (HB1.out.trans (hb2.mono HB1.out.size))
    have HR2 := Lib.hid (HR1.out.keep hb2 (Nat.le_refl _))
    clear hb2 HB1 HR1
    go_wp2_with fail
    refine (askNextS n ao b 0 cap zs _ HR2.out HN.out (by omega)).mono ?_
    rw [HZ.out]
    rintro e w3 ⟨rfl, hb3⟩
    have HB3 := Lib.hid (HB2.out.trans (hb3.mono HB2.out.size))
    have HR3 := Lib.hid (HR2.out.keep hb3 (Nat.le_refl _))
    clear hb3 HB2 HR2
    have hzz : ((z : Int) != (z : Int)) = false := by simp
    have hzb : ((z != 0) != (z != 0)) = false := by simp
    by_cases hv : z = 0
    · subst hv
      go_wp2_with fail
      all_goals
        go_ret
        exact ⟨rfl, HB3.out⟩
    · have hzn : (z != 0) = true := by rw [bne_iff_ne]; exact hv
      have HS := Lib.hid (nxt_spec (show nxt n zs ≠ 0 by rw [HZ.out]; exact hv))
      obtain ⟨hvv, hs0, hrr⟩ := good_t HS.out.2.2.1
      rw [HZ.out] at HS
      have HVV := Lib.hid hvv
      obtain ⟨m, rfl, hm1, hm6, hx12, hx⟩ := vld_range (vld_front hvv)
      have HX := Lib.hid hx
      have HV := Lib.hid (vld_front hvv)
      clear hx hvv hs0 hrr hv
      have hz1 : 1 ≤ z := HS.out.1
      have hz2 : (z : Int) < 2 ^ m := by
        have h := HS.out.2.1
        rw [Int.toNat_natCast] at h
        have := pow_nat m
        omega
      have hz64 : z ≤ 64 := by have h64 : (2 : Int) ^ m ≤ 64 := pow_le (a := 2) (k := m) (n := 6) (by decide) hm6; omega
      have HZ2 := Lib.hid hz2
      have hz1I : (1 : Int) ≤ (z : Int) := by omega
      clear hz2
      have HBa := Lib.hid ((Below.refl w3.heap.size w3).alloc (Nat.le_refl _) (.cells #[] 3))
      have HOa := Lib.hid (Own.lit (w := w3) (base := w3.heap.size) [] (Nat.le_refl _) (by simp))
      have HRa := Lib.hid (HR3.out.keep HBa.out (Nat.le_refl _))
      go_wp2_with (at_builtin; refine wpList_appL rfl (.tmp 53) (.tmp 54) rfl w3.heap.size _ [] rfl HOa.out ao b 0 cap zs rfl HN.out HRa.out (by simp) (by omega) HBa.out.size ?_)
      intro va wa hOa hBa _
      have HOb := Lib.hid hOa
      have HBb := Lib.hid (HBa.out.trans hBa)
      clear hOa hBa HOa HBa HRa
      go_wp2_with (at_builtin; refine wpList_app1 rfl (.tmp 55) (.tmp 57) rfl w3.heap.size _ zs rfl HOb.out (z : Int) rfl rfl (by omega) HBb.out.size ?_)
      intro vb wb hOb hBb _
      obtain ⟨ys, hys⟩ : ∃ ys, zs ++ [(z : Int)] = ys := ⟨_, rfl⟩
      have hyl : ys.length = zs.length + 1 := by rw [← hys]; simp
      have HYL := Lib.hid hyl
      rw [hys] at hOb
      obtain ⟨ay, by_, cy, rfl, hyc, hyc2, hyr, hyn, hya⟩ := hOb.row2
      have HYO := Lib.hid hOb
      have HYS := Lib.hid hys
      have HYR := Lib.hid hyr
      have HYN := Lib.hid hyn
      have HYA := Lib.hid hya
      have HYB := Lib.hid (HB3.out.trans ((HBb.out.trans hBb).mono HB3.out.size))
      have HRb := Lib.hid (HR3.out.keep (HBb.out.trans hBb) (Nat.le_refl _))
      have HYSZ := Lib.hid (HBb.out.trans hBb).size
      clear hys hyr hyn hya hOb hBb HOb HBb hyl

      have HGT := Lib.hid (good_t HS.out.2.2.1)
      have HX0 := Lib.hid (show vldB m ys = true ∧ tld m ys m = 0 ∧ 1 ≤ rnk m ys by
        rw [← HYS.out]
        have := HGT.out.2.2
        rw [Int.toNat_natCast] at this
        exact ⟨HGT.out.1, HGT.out.2.1, by omega⟩)
      go_wp2_with fail
      go_loopw [9, 10] (fun v i wr => ∃ (k : Nat) (X : List Int), i = .int .i64 k ∧ k ≤ m ∧ vldB m X = true ∧ Hid (tld m X m = 0) ∧ 1 + k ≤ rnk m X ∧ Own wr w3.heap.size v X ∧ Below w.heap.size w wr ∧ w3.heap.size ≤ wr.heap.size) (fun _ i _ => m - (intOf i).toNat)
      case atStart => exact ⟨0, ys, rfl, Nat.zero_le _, HX0.out.1, HX0.out.2.1, HX0.out.2.2, HYO.out, HYB.out, HYSZ.out⟩
      case round =>
        clear HYR HYB HYO HYA HYN HRb HX0 HYS HYL
        obtain ⟨k, X, rfl, hk, hv, HT0, hrk, hO, hB, hsz⟩ := hrel
        have HO := Lib.hid hO
        have HB := Lib.hid hB
        have HVX := Lib.hid hv
        have hxl : X.length ≤ 12 := (vld_iff.1 hv).2.2.1
        have hrm := Go.AskMath.rnk_le m X
        have hsf : rnk m X < m := Go.AskMath.rnk_safe hm1 HT0.out
        obtain ⟨r, hr⟩ : ∃ r, rnk m X = r := ⟨_, rfl⟩
        rw [hr] at hrk hrm hsf
        have HRE := Lib.hid hr
        clear hO hB hv hr
        have hkm : k < m := by omega
        obtain ⟨ax, bx, cx, hvx, hxc, hxc2, hrx, hnx, _⟩ := HO.out.row2
        rename_i u9b _
        subst hvx
        have HRX := Lib.hid hrx
        have HNX := Lib.hid hnx
        clear hrx hnx
        go_wp2_with fail
        refine (askNextI m ax bx 0 cx X _ HRX.out HNX.out (by omega)).mono ?_
        have HSX := Lib.hid (fun (h : nxt m X ≠ 0) => good_t (nxt_spec h).2.2.1)
        obtain ⟨z2, hz2⟩ : ∃ z, nxt m X = z := ⟨_, rfl⟩
        rw [hz2] at HSX ⊢
        clear hz2
        rintro e w5 ⟨rfl, hb5⟩
        have HB5 := Lib.hid (HB.out.trans (hb5.mono HB.out.size))
        have HO5 := Lib.hid (HO.out.below hb5)
        have HR5 := Lib.hid (HRX.out.keep hb5 (Nat.le_refl _))
        have hs5 : w3.heap.size ≤ w5.heap.size := by have := hb5.size; omega
        clear hb5
        by_cases h0 : z2 = 0
        · subst h0
          have hsfI : (r : Int) < (m : Int) := by omega
          go_wp2_with fail
          refine (askRankV m r ax bx 0 cx X _ HR5.out HVX.out HRE.out).mono ?_
          rintro e w6 ⟨rfl, hb6⟩
          have HB6 := Lib.hid (HB5.out.trans (hb6.mono HB5.out.size))
          have HR6 := Lib.hid (HR5.out.keep hb6 (Nat.le_refl _))
          clear hb6
          go_wp2_with fail
          refine (askToldV m 0 ax bx 0 cx X _ HR6.out HNX.out HVX.out HT0.out).mono ?_
          rintro e w7 ⟨rfl, hb7⟩
          have HB7 := Lib.hid (HB6.out.trans (hb7.mono HB6.out.size))
          clear hb7
          go_wp2_with fail
          go_ret
          exact ⟨rfl, HB7.out⟩
        · have hzb2 : (z2 != 0) = true := by rw [bne_iff_ne]; exact h0
          have HG := Lib.hid (HSX.out h0)
          go_wp2_with (at_builtin; refine wpList_app1 rfl (.tmp 83) (.tmp 85) rfl w3.heap.size _ X rfl HO5.out z2 rfl rfl (by omega) hs5 ?_)
          intro v6 w6 hO6 hB6 _
          have HO6 := Lib.hid hO6
          have HB6 := Lib.hid (HB5.out.trans (hB6.mono HB3.out.size))
          have hs6 : w3.heap.size ≤ w6.heap.size := by have := hB6.size; omega
          clear hO6 hB6
          go_wp2_with fail
          go_roundw
          case rel =>
            refine ⟨k + 1, X ++ [(z2 : Int)], by go_num, by omega, HG.out.1, HG.out.2.1, ?_, HO6.out, HB6.out, hs6⟩
            have := HG.out.2.2
            rw [Int.toNat_natCast, HRE.out] at this
            omega
          case measure => simp [intOf]; omega
  · go_enter Try.func14, Try.ntmps14
    go_wp2_with fail
    go_ret
    exact ⟨rfl, Below.refl _ _⟩

end Go.Proofs.Ytjglikccikeejab
