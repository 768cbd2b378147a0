/-
  The walk of the law FnTells.
-/
import Derived.Test.YtjglikccikeejabAskV
import Derived.Test.YtjglikccikeejabAskSafe
import Derived.Test.YtjglikccikeejabAskS3
import Derived.Test.YtjglikccikeejabDrawT
import Derived.Test.YtjglikccikeejabDrawM
import Derived.Deep.RegionLaw
import Derived.Deep.DeepCutAuto
namespace Go.Proofs.Ytjglikccikeejab
open Go.RowKit
open Go.AskMath (rnk tel tld)

set_option maxRecDepth 100000 in
set_option maxHeartbeats 1000000 in
theorem walkTells (a0 : Option Addr) (b0 o0 c0 : Nat) (xs0 : List Int) (a1 : Option Addr) (b1 o1 c1 : Nat) (xs1 : List Int) (w : World)
    (hr0 : Row .u8 w a0 b0 o0 xs0) (hl0 : xs0.length ≤ c0 ∧ c0 ≤ 9223372036854775807) (hw0 : ∀ i, i < xs0.length → (Lit.int .u8 (xs0.getD i 0)).wf = true)
    (_hr1 : Row .u8 w a1 b1 o1 xs1) (hl1 : xs1.length ≤ c1 ∧ c1 ≤ 9223372036854775807) (_hw1 : ∀ i, i < xs1.length → (Lit.int .u8 (xs1.getD i 0)).wf = true) :
    Calls Try.prog 4 #[.slice a0 xs0.length c0, .slice a1 xs1.length c1] w fun e w' => e = .returned (.bool true) ∧ Below w.heap.size w w' := by
  obtain ⟨hl01, hl02⟩ := hl0
  obtain ⟨hl11, hl12⟩ := hl1
  by_cases h20 : xs0.length ≤ 1048576 ∧ xs1.length ≤ 1048576
  · obtain ⟨h20, h21⟩ := h20
    go_enter Try.func4, Try.ntmps4
    go_wp2_with fail
    refine (drawTells_any a0 b0 o0 c0 xs0 w hr0 hl01 hw0 hl02).mono ?_
    rintro e w1 ⟨n, v, zs, i, rfl, hzl, hO, hB⟩
    obtain ⟨ao, b, cap, rfl, hcap, hcap2, hrow, hnil, hao⟩ := hO.row2
    have HAO := Lib.hid hao
    have HN := Lib.hid hnil
    have HR1 := Lib.hid hrow
    have HB1 := Lib.hid hB
    clear hO hnil hrow hB hao hr0 hw0
    obtain ⟨z, hz⟩ : ∃ z : Bool, (vldB n zs && (decide (0 ≤ i ∧ i < n) && tel n.toNat zs i.toNat)) = z := ⟨_, rfl⟩
    have HZ := Lib.hid hz
    clear hz
    go_wp2_with fail
    refine (askTellsI n i ao b 0 cap zs _ HR1.out HN.out (by omega)).mono ?_
    rw [HZ.out]
    rintro e w2 ⟨rfl, hb2⟩
    have HB2 := Lib.hid (HB1.out.trans (hb2.mono HB1.out.size))
    have HR2 := Lib.hid (HR1.out.keep hb2 (Nat.le_refl _))
    clear hb2 HB1 HR1
    go_wp2_with fail
    refine (askTellsS n i ao b 0 cap zs _ HR2.out HN.out (by omega)).mono ?_
    rw [HZ.out]
    rintro e w3 ⟨rfl, hb3⟩
    have HB3 := Lib.hid (HB2.out.trans (hb3.mono HB2.out.size))
    have HR3 := Lib.hid (HR2.out.keep hb3 (Nat.le_refl _))
    clear hb3 HB2 HR2
    have hzz : (z != z) = false := by simp
    cases hv : z with
    | false =>
      subst hv
      go_wp2_with fail
      all_goals
        go_ret
        exact ⟨rfl, HB3.out⟩
    | true =>
      subst hv
      have hz1 := HZ.out
      rw [Bool.and_eq_true, Bool.and_eq_true, decide_eq_true_eq] at hz1
      obtain ⟨hv, ⟨hi0, hi1⟩, ht⟩ := hz1
      obtain ⟨m, rfl, hm1, hm6, hx12, hx⟩ := vld_range hv
      obtain ⟨j, rfl⟩ := Int.eq_ofNat_of_zero_le hi0
      have hjm : j < m := by omega
      have HX := Lib.hid hx
      have HV := Lib.hid hv
      have HT := Lib.hid (show tel m zs j = true from ht)
      clear hx hv ht hi0 hi1 HZ
      go_wp2_with fail
      go_loop [10, 11] (fun p i => ∃ k : Nat, k ≤ j ∧ i = .int .i64 k ∧ p = .int .i64 (2 ^ k)) (fun _ i => j - (intOf i).toNat)
      case atStart => exact ⟨0, Nat.zero_le _, rfl, rfl⟩
      case round =>
        obtain ⟨k, hk, rfl, rfl⟩ := hrel
        by_cases hlt : k < j
        · have h2 : (2 : Int) ^ k * 2 = 2 ^ (k + 1) := (Int.pow_succ 2 k).symm
          have H : Hid (wrap64 ((2 : Int) ^ k * 2) = 2 ^ (k + 1)) := by
            show wrap64 ((2 : Int) ^ k * 2) = 2 ^ (k + 1)
            rw [h2]
            have h0 : (0 : Int) ≤ 2 ^ (k + 1) := Int.pow_nonneg (by omega)
            exact IntWalk.wrap64_in _ ⟨by omega, two_le (by omega)⟩
          clear h2
          go_wp2_with fail
          go_round
          case rel => exact ⟨k + 1, by omega, by go_num, int_eq H.out⟩
          case measure => simp [intOf]; omega
        · obtain rfl : k = j := by omega
          have hpu := unit_range hm6 hjm
          rw [Int.toNat_natCast] at hpu
          have hM64 : (2 : Int) ^ m ≤ 64 := pow_le (a := 2) (k := m) (n := 6) (by decide) hm6
          have h2P : (2 : Int) * 2 ^ k ≤ 2 ^ m := by have h5 := pow_le (a := 2) (k := k + 1) (n := m) (by decide) (by omega); rw [Int.pow_succ] at h5; omega
          have HTU := Lib.hid (show rnk m (zs ++ [(2 : Int) ^ k]) = rnk m zs from Go.AskMath.rnk_tel HT.out)
          have hPe : (2 : Int) ^ (m : Int).toNat = 2 ^ m := by rw [Int.toNat_natCast]
          obtain ⟨P, hP⟩ : ∃ P : Int, (2 : Int) ^ k = P := ⟨_, rfl⟩
          obtain ⟨M, hM⟩ : ∃ M : Int, (2 : Int) ^ m = M := ⟨_, rfl⟩
          rw [hP] at hpu h2P HTU
          rw [hM] at hpu h2P hM64 hPe
          rw [hP]
          have HPE := Lib.hid hPe
          clear hP hM hPe
          by_cases h12 : zs.length = 12
          · have h12b : (zs.length == 12) = true := by rw [beq_iff_eq]; exact h12
            have h12c : ((zs.length : Int) == 12) = true := by rw [beq_iff_eq]; omega
            clear h12
            go_wp2_with fail
            refine (validI m ao b 0 cap zs _ HR3.out (by omega)).mono ?_
            rw [HV.out]
            rintro e w5 ⟨rfl, rfl⟩
            go_wp2_with fail
            go_ret
            exact ⟨rfl, HB3.out⟩
          · have h12b : (zs.length == 12) = false := by rw [beq_eq_false_iff_ne]; exact h12
            have h12c : ((zs.length : Int) == 12) = false := by rw [beq_eq_false_iff_ne]; omega
            have hl11 : zs.length ≤ 11 := by omega
            clear h12
            obtain ⟨F, hF⟩ : ∃ F : Int, (xs1.length : Int) % (2 * P - 1) = F := ⟨_, rfl⟩
            have hF0 : 0 ≤ F := by rw [← hF]; exact Int.emod_nonneg _ (by omega)
            have hF1 : F < 2 * P - 1 := by rw [← hF]; exact Int.emod_lt_of_pos _ (by omega)
            have e1 : IntKind.i64.wrap (2 * P) = 2 * P := IntWalk.i64_in _ ⟨by omega, by omega⟩
            have e2 : IntKind.i64.wrap (2 * P - 1) = 2 * P - 1 := IntWalk.i64_in _ ⟨by omega, by omega⟩
            have e3 : Int.tmod (xs1.length : Int) (2 * P - 1) = F := by rw [Int.tmod_eq_emod_of_nonneg (by omega)]; exact hF
            obtain ⟨y, hy⟩ : ∃ y : Int, 1 + F = y := ⟨_, rfl⟩
            have hy1 : 1 ≤ y := by omega
            have hy2 : y < M := by omega
            have e4 : IntKind.i64.wrap (1 + F) = y := by rw [hy]; exact IntWalk.i64_in _ ⟨by omega, by omega⟩
            have hEz : (2 * P - 1 == 0) = false := by rw [beq_eq_false_iff_ne]; omega
            have hEn : ¬ (2 * P - 1 = 0) := by omega
            have hEp : 0 < 2 * P - 1 := by omega
            clear hF hy
            have HBA := Lib.hid ((Below.refl w3.heap.size w3).alloc (Nat.le_refl _) (.cells #[] 3)).drew
            have HBB := Lib.hid (((Below.refl w3.heap.size w3).alloc (Nat.le_refl _) (.cells #[] 3)).alloc (by simp) (.cells #[.int .i64 y] 3)).drew
            have HBC := Lib.hid (((Below.refl w3.heap.size w3).alloc (Nat.le_refl _) (.cells #[.int .i64 y] 3)).alloc (by simp) (.cells #[] 3)).drew
            have HOA := Lib.hid (Own.lit (w := w3) (base := w3.heap.size) [] (Nat.le_refl _) (by simp))
            have HOB := Lib.hid (HOA.out.alloc (.cells #[.int .i64 y] 3))
            have hoc := Own.lit (w := w3.alloc (.cells #[.int .i64 y] 3)) (base := w3.heap.size) [] (by simp) (by simp)
            rw [World.size_alloc] at hoc
            have HOC := Lib.hid hoc
            have HRA := Lib.hid (HR3.out.keep HBA.out (Nat.le_refl _))
            have HRB := Lib.hid (HR3.out.keep HBB.out (Nat.le_refl _))
            have HRC := Lib.hid (HR3.out.keep HBC.out (Nat.le_refl _))
            have hyb := rowL (w3.alloc (.cells #[] 3)) [y]
            rw [World.size_alloc] at hyb
            have HYRB := Lib.hid hyb
            have HYRC := Lib.hid ((rowL w3 [y]).keep ((Below.refl (w3.heap.size + 1) (w3.alloc (.cells #[.int .i64 y] 3))).alloc (by simp) (.cells #[] 3)) (by simp))
            clear hoc hyb

            go_upto_region 15 with fail
            go_cut [12] (fun s wx => AppT zs y w3 s wx)
            case first =>
              go_region_law (first
                | (refine step_appL rfl (.tmp 59) (.tmp 60) rfl w3.heap.size _ [] (by rfl) ?_ _ b 0 cap zs (by rfl) HN.out ?_ (by simp) (by omega) ?_ ?_; (first | exact HOA.out | exact HOB.out | exact HOC.out); (first | exact HRA.out | exact HRB.out | exact HRC.out); (first | exact HBA.out.size | exact HBB.out.size | exact HBC.out.size); intro va wa hOa hBa hGa; have HOa := Lib.hid hOa; have HBa := Lib.hid (app_below HBA.out HBB.out HBC.out hBa); (try have HYa := Lib.hid (row_grown HYRB.out hGa (by show (some w3.heap.size : Option Nat) ≠ some (w3.heap.size + 1); simp))); (try have HYa := Lib.hid (row_grown HYRC.out hGa (by show (some (w3.heap.size + 1) : Option Nat) ≠ some w3.heap.size; simp))); clear hOa hBa hGa)
                | (refine step_app1 (w0 := wa) rfl (.tmp 61) (.tmp 69) rfl w3.heap.size _ zs (by rfl) HOa.out y rfl (by rfl) (by omega) HBa.out.size ?_; intro vb wb hOb hBb _)
                | (refine step_appL rfl (.tmp 61) (.tmp 69) rfl w3.heap.size _ zs (by rfl) HOa.out _ _ 0 1 [y] (by rfl) (fun h => by cases h) HYa.out (by omega) (by simp) HBa.out.size ?_; intro vb wb hOb hBb _))
              all_goals
                have HOb := Lib.hid hOb
                have HBb := Lib.hid (HBa.out.trans hBb)
                clear hOb hBb
                go_wp2_with fail
                go_meet
                exact ⟨HOb.out, HBb.out⟩
            case rest =>
              clear HBA HBB HBC HOA HOB HOC HRA HRB HRC HYRB HYRC e1 e2 e3 e4
              obtain ⟨hO, hB⟩ := hcut
              have HTE := Lib.hid (show (vldB m (zs ++ [y]) && (decide (0 ≤ (k : Int) ∧ (k : Int) < m) && tel (m : Int).toNat (zs ++ [y]) (k : Int).toNat)) = true by
                rw [vld_app HV.out (fun p hp => by rw [List.mem_singleton] at hp; rw [hp, HPE.out]; exact ⟨hy1, hy2⟩) (by simp; omega), decide_eq_true (show 0 ≤ (k : Int) ∧ (k : Int) < m by omega)]
                simp only [Int.toNat_natCast, Go.AskMath.tel_mono (fun q hq => List.mem_append_left _ hq) k HT.out, Bool.and_self])
              have hxl : (zs ++ [y]).length ≤ 9223372036854775807 := by simp; omega
              obtain ⟨X, hX⟩ : ∃ X, zs ++ [y] = X := ⟨_, rfl⟩
              rw [hX] at hO HTE hxl
              obtain ⟨ax, bx, cx, rfl, _, _, hrx, hnx, _⟩ := hO.row2
              have HXR := Lib.hid hrx
              have HXN := Lib.hid hnx
              have HB4 := Lib.hid (HB3.out.trans (hB.mono HB3.out.size))
              have HR4 := Lib.hid (HR3.out.keep hB (Nat.le_refl _))
              clear hX hO hrx hnx hB
              have HBa := Lib.hid ((Below.refl wc.heap.size wc).alloc (Nat.le_refl _) (.cells #[] 3))
              have HOa := Lib.hid (Own.lit (w := wc) (base := wc.heap.size) [] (Nat.le_refl _) (by simp))
              have HRa := Lib.hid (HR4.out.keep HBa.out (Nat.le_refl _))
              go_wp2_with (at_builtin; refine wpList_appL rfl (.tmp 71) (.tmp 72) rfl wc.heap.size _ [] rfl HOa.out ao b 0 cap zs rfl HN.out HRa.out (by simp) (by omega) HBa.out.size ?_)
              intro va wa hOa hBa _
              have HOb := Lib.hid hOa
              have HBb := Lib.hid (HBa.out.trans hBa)
              clear hOa hBa HOa HBa HRa
              go_wp2_with (at_builtin; refine wpList_app1 rfl (.tmp 73) (.tmp 75) rfl wc.heap.size _ zs rfl HOb.out P rfl rfl (by omega) HBb.out.size ?_)
              intro vb wb hOb hBb _
              obtain ⟨ys, hys⟩ : ∃ ys, zs ++ [P] = ys := ⟨_, rfl⟩
              have hyl : ys.length = zs.length + 1 := by rw [← hys]; simp
              have HYL := Lib.hid hyl
              rw [hys] at hOb
              obtain ⟨ay, by_, cy, rfl, hyc, hyc2, hyr, hyn, hya⟩ := hOb.row2
              have HYO := Lib.hid hOb
              have HYS := Lib.hid hys
              have HYR := Lib.hid hyr
              have HYN := Lib.hid hyn
              have HYA := Lib.hid hya
              have HYB := Lib.hid (HB4.out.trans ((HBb.out.trans hBb).mono HB4.out.size))
              have HRb := Lib.hid (HR4.out.keep (HBb.out.trans hBb) (Nat.le_refl _))
              have HYSZ := Lib.hid (HBb.out.trans hBb).size
              have HYBB := Lib.hid (HBb.out.trans hBb)
              clear hys hyr hyn hya hOb hBb HOb HBb hyl
              have HX5 := Lib.hid (HXR.out.keep HYBB.out (Nat.le_refl _))
              have HVY := Lib.hid (show vldB m ys = true by rw [← HYS.out]; exact vld_app HV.out (fun p hp => by rw [List.mem_singleton] at hp; rw [hp, HPE.out]; exact hpu) (by simp; omega))
              obtain ⟨r2, hr2⟩ : ∃ r2, rnk m zs = r2 := ⟨_, rfl⟩
              have HRZ := Lib.hid hr2
              have HRY := Lib.hid (show rnk m ys = r2 by rw [← HYS.out, HTU.out]; exact hr2)
              clear hr2
              go_wp2_with fail
              refine (askTellsI m k ax bx 0 cx X _ HX5.out HXN.out hxl).mono ?_
              rw [HTE.out]
              rintro e w6 ⟨rfl, hb6⟩
              have HB6 := Lib.hid (HYB.out.trans (hb6.mono HYB.out.size))
              have HY6 := Lib.hid (HYR.out.keep hb6 (Nat.le_refl _))
              have HR6 := Lib.hid (HRb.out.keep hb6 (Nat.le_refl _))
              clear hb6
              go_wp2_with fail
              refine (askRankV m r2 ay by_ 0 cy ys _ HY6.out HVY.out HRY.out).mono ?_
              rintro e w7 ⟨rfl, hb7⟩
              have HB7 := Lib.hid (HB6.out.trans (hb7.mono HB6.out.size))
              have HR7 := Lib.hid (HR6.out.keep hb7 (Nat.le_refl _))
              clear hb7
              go_wp2_with fail
              refine (askRankV m r2 ao b 0 cap zs _ HR7.out HV.out HRZ.out).mono ?_
              rintro e w8 ⟨rfl, hb8⟩
              have HB8 := Lib.hid (HB7.out.trans (hb8.mono HB7.out.size))
              clear hb8
              go_wp2_with fail
              go_ret
              exact ⟨by simp, HB8.out⟩
  · by_cases h0 : xs0.length ≤ 1048576
    all_goals
      go_enter Try.func4, Try.ntmps4
      go_wp2_with fail
      go_ret
      exact ⟨rfl, Below.refl _ _⟩

end Go.Proofs.Ytjglikccikeejab
