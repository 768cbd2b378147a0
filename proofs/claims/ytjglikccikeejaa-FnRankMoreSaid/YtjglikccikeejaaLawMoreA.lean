/-
  The walk of the law FnRankMore.
-/
import Derived.Test.YtjglikccikeejaaAskV
import Derived.Test.YtjglikccikeejaaAskSafe
import Derived.Test.YtjglikccikeejaaDrawA
import Derived.Test.YtjglikccikeejaaDrawM
import Derived.Deep.RegionLaw
import Derived.Deep.DeepCutAuto
namespace Go.Proofs.Ytjglikccikeejaa
open Go.RowKit
open Go.AskMath (rnk tel tld)

set_option maxRecDepth 100000 in
set_option maxHeartbeats 1000000 in
theorem walkRankMore (a0 : Option Addr) (b0 o0 c0 : Nat) (xs0 : List Int) (a1 : Option Addr) (b1 o1 c1 : Nat) (xs1 : List Int) (w : World)
    (hr0 : Row .u8 w a0 b0 o0 xs0) (hl0 : xs0.length ≤ c0 ∧ c0 ≤ 9223372036854775807) (hw0 : ∀ i, i < xs0.length → (Lit.int .u8 (xs0.getD i 0)).wf = true)
    (_hr1 : Row .u8 w a1 b1 o1 xs1) (hl1 : xs1.length ≤ c1 ∧ c1 ≤ 9223372036854775807) (_hw1 : ∀ i, i < xs1.length → (Lit.int .u8 (xs1.getD i 0)).wf = true) :
    Calls Try.prog 8 #[.slice a0 xs0.length c0, .slice a1 xs1.length c1] w fun e w' => e = .returned (.bool true) ∧ Below w.heap.size w w' := by
  obtain ⟨hl01, hl02⟩ := hl0
  obtain ⟨hl11, hl12⟩ := hl1
  by_cases h20 : xs0.length ≤ 1048576 ∧ xs1.length ≤ 1048576
  · obtain ⟨h20, h21⟩ := h20
    go_enter Try.func8, Try.ntmps8
    go_wp2_with fail
    refine (drawRank_any a0 b0 o0 c0 xs0 w hr0 hl01 hw0 hl02).mono ?_
    rintro e w1 ⟨n, v, zs, rfl, hzl, hO, hB⟩
    obtain ⟨ao, b, cap, rfl, hcap, hcap2, hrow, hnil, hao⟩ := hO.row2
    have HAO := Lib.hid hao
    have HN := Lib.hid hnil
    have HR1 := Lib.hid hrow
    have HB1 := Lib.hid hB
    clear hO hnil hrow hB hao hr0 hw0
    obtain ⟨z, hz⟩ : ∃ z : Int, (if vldB n zs then (rnk n.toNat zs : Int) else -1) = z := ⟨_, rfl⟩
    have HZ := Lib.hid hz
    clear hz
    go_wp2_with fail
    refine (askRankI n ao b 0 cap zs _ HR1.out (by omega)).mono ?_
    rw [HZ.out]
    rintro e w2 ⟨rfl, hb2⟩
    have HB2 := Lib.hid (HB1.out.trans (hb2.mono HB1.out.size))
    have HR2 := Lib.hid (HR1.out.keep hb2 (Nat.le_refl _))
    clear hb2 HB1 HR1
    go_wp2_with fail
    refine (askRankS n ao b 0 cap zs _ HR2.out (by omega)).mono ?_
    rw [HZ.out]
    rintro e w3 ⟨rfl, hb3⟩
    have HB3 := Lib.hid (HB2.out.trans (hb3.mono HB2.out.size))
    have HR3 := Lib.hid (HR2.out.keep hb3 (Nat.le_refl _))
    clear hb3 HB2 HR2
    have hzz : (z != z) = false := by simp
    cases hv : vldB n zs with
    | false =>
      have hz1 : z = -1 := by rw [← HZ.out, hv]; rfl
      subst hz1
      clear hv
      go_wp2_with fail
      all_goals
        go_ret
        exact ⟨rfl, HB3.out⟩
    | true =>
      obtain ⟨m, rfl, hm1, hm6, hx12, hx⟩ := vld_range hv
      obtain ⟨r, hr⟩ : ∃ r, rnk m zs = r := ⟨_, rfl⟩
      have hz1 : z = (r : Int) := by rw [← HZ.out, hv, ← hr]; rfl
      subst hz1
      have HX := Lib.hid hx
      have HV := Lib.hid hv
      have HRE := Lib.hid hr
      clear hx hv hr HZ
      by_cases hcut : 12 < zs.length + m
      · have hcI : (12 : Int) < (zs.length : Int) + (m : Int) := by omega
        have hr0 : (0 : Int) ≤ (r : Int) := by omega
        go_wp2_with fail
        go_ret
        exact ⟨rfl, HB3.out⟩
      · have hcI : ¬ ((12 : Int) < (zs.length : Int) + (m : Int)) := by omega
        have hl11 : zs.length + m ≤ 12 := by omega
        have HBa0 := Lib.hid ((Below.refl w3.heap.size w3).alloc (Nat.le_refl _) (.cells #[] 3))
        have HOa0 := Lib.hid (Own.lit (w := w3) (base := w3.heap.size) [] (Nat.le_refl _) (by simp))
        have HRa0 := Lib.hid (HR3.out.keep HBa0.out (Nat.le_refl _))
        obtain ⟨B0, hB0⟩ : ∃ B0, w3.heap.size = B0 := ⟨_, rfl⟩
        have HBE := Lib.hid hB0
        clear hB0
        go_wp2_with (at_builtin; refine wpList_appL rfl (.tmp 49) (.tmp 50) rfl w3.heap.size _ [] rfl HOa0.out ao b 0 cap zs rfl HN.out HRa0.out (by simp) (by omega) HBa0.out.size ?_)
        intro v5 w5 hO5 hB5 _
        rw [HBE.out] at hO5 hB5 HBa0
        have HO5 := Lib.hid hO5
        have HB5 := Lib.hid (HBa0.out.trans hB5)
        clear hO5 hB5 HOa0 HBa0 HRa0
        go_wp2_with fail
        go_loopw [9, 10, 11] (fun v p i wr => ∃ k : Nat, k ≤ m ∧ i = .int .i64 k ∧ p = .int .i64 (2 ^ k) ∧ Own wr B0 v (zs ++ (List.range k).map Go.AskMath.unit) ∧ Below B0 w3 wr) (fun _ _ i _ => m - (intOf i).toNat)
        case atStart => exact ⟨0, Nat.zero_le _, rfl, rfl, by simpa using HO5.out, HB5.out⟩
        case round =>
          clear HO5 HB5
          obtain ⟨k, hk, rfl, rfl, hO, hB⟩ := hrel
          have HO := Lib.hid hO
          have HB := Lib.hid hB
          have hsz : B0 ≤ wr.heap.size := by have := hB.size; rw [HBE.out] at this; exact this
          clear hO hB
          by_cases hlt : k < m
          · have h2 : (2 : Int) ^ k * 2 = 2 ^ (k + 1) := (Int.pow_succ 2 k).symm
            have H : Hid (wrap64 ((2 : Int) ^ k * 2) = 2 ^ (k + 1)) := by
              show wrap64 ((2 : Int) ^ k * 2) = 2 ^ (k + 1)
              rw [h2]
              have h0 : (0 : Int) ≤ 2 ^ (k + 1) := Int.pow_nonneg (by omega)
              exact IntWalk.wrap64_in _ ⟨by omega, two_le (by omega)⟩
            clear h2
            go_wp2_with (at_builtin; refine wpList_app1 rfl (.tmp 57) (.tmp 59) rfl B0 _ _ rfl HO.out (2 ^ k) rfl rfl (by simp; omega) hsz ?_)
            intro v4 w4 hO4 hB4 _
            have HO4 := Lib.hid hO4
            have HB4 := Lib.hid (HB.out.trans hB4)
            clear hO4 hB4
            go_wp2_with fail
            go_roundw
            case rel =>
              refine ⟨k + 1, by omega, by go_num, int_eq H.out, ?_, HB4.out⟩
              rw [List.range_succ, List.map_append, List.map_singleton]
              exact HO4.out
            case measure => simp [intOf]; omega
          · obtain rfl : k = m := by omega
            have hP2 : (2 : Int) ≤ 2 ^ k := by have := pow_le (a := 2) (k := 1) (n := k) (by decide) hm1; simpa using this
            have hP6 : (2 : Int) ^ k ≤ 64 := pow_le (a := 2) (k := k) (n := 6) (by decide) hm6
            obtain ⟨ax, bx, cx, hvx, hxc, hxc2, hrx, hnx, _⟩ := HO.out.row2
            have hva : vldB k (zs ++ (List.range k).map Go.AskMath.unit) = true := vld_app HV.out (fun q hq => by
              obtain ⟨i, hi, rfl⟩ := List.mem_map.1 hq
              exact unit_range hm6 (List.mem_range.1 hi)) (by simp; omega)
            have hra : rnk k (zs ++ (List.range k).map Go.AskMath.unit) = k := Go.AskMath.rnk_units_in (fun i hi => List.mem_append_right _ (List.mem_map_of_mem (List.mem_range.2 hi)))
            have hal : (zs ++ (List.range k).map Go.AskMath.unit).length = zs.length + k := by simp
            rename_i u9b _ _ _ _ _
            subst hvx
            obtain ⟨AL, hAL⟩ : ∃ AL, zs ++ (List.range k).map Go.AskMath.unit = AL := ⟨_, rfl⟩
            rw [hAL] at hva hra hrx hxc hal ⊢
            have HAR := Lib.hid hrx
            have HAV := Lib.hid hva
            have HARK := Lib.hid hra
            have HRw := Lib.hid (HR3.out.keep2 HB.out (fun h => by have := HR3.out.lt h; rw [← HBE.out]; exact this))
            have HBw := Lib.hid (HB3.out.trans (HB.out.mono (by rw [← HBE.out]; exact HB3.out.size)))
            obtain ⟨P, hP⟩ : ∃ P : Int, (2 : Int) ^ k = P := ⟨_, rfl⟩
            rw [hP] at hP2 hP6 ⊢
            have HPE := Lib.hid (show (2 : Int) ^ (k : Int).toNat = P by rw [Int.toNat_natCast]; exact hP)
            clear hAL hva hra hrx hnx hxc hxc2 hal hP HO HB hsz
            obtain ⟨F, hF⟩ : ∃ F : Int, (xs1.length : Int) % (P - 1) = F := ⟨_, rfl⟩
            have hF0 : 0 ≤ F := by rw [← hF]; exact Int.emod_nonneg _ (by omega)
            have hF1 : F < P - 1 := by rw [← hF]; exact Int.emod_lt_of_pos _ (by omega)
            have e2 : IntKind.i64.wrap (P - 1) = P - 1 := IntWalk.i64_in _ ⟨by omega, by omega⟩
            have e3 : Int.tmod (xs1.length : Int) (P - 1) = F := by rw [Int.tmod_eq_emod_of_nonneg (by omega)]; exact hF
            obtain ⟨y, hy⟩ : ∃ y : Int, 1 + F = y := ⟨_, rfl⟩
            have hy1 : 1 ≤ y := by omega
            have hy2 : y < P := by omega
            have e4 : IntKind.i64.wrap (1 + F) = y := by rw [hy]; exact IntWalk.i64_in _ ⟨by omega, by omega⟩
            have hEz : (P - 1 == 0) = false := by rw [beq_eq_false_iff_ne]; omega
            have hEn : ¬ (P - 1 = 0) := by omega
            have hEp : 0 < P - 1 := by omega
            clear hF hy
            obtain ⟨rx, hrx⟩ : ∃ rx, rnk k (zs ++ [y]) = rx := ⟨_, rfl⟩
            have hor : rx = r ∨ rx = r + 1 := by rw [← hrx, ← HRE.out]; exact Go.AskMath.rnk_app zs y
            have HV1 := Lib.hid (fun (ys : List Int) (h : zs ++ [y] = ys) => (show vldB k ys = true ∧ rnk k ys = rx from
              ⟨by rw [← h]; exact vld_app HV.out (fun p hp => by rw [List.mem_singleton] at hp; rw [hp, HPE.out]; exact ⟨hy1, hy2⟩) (by simp; omega), by rw [← h]; exact hrx⟩))
            have HOR := Lib.hid hor
            clear hrx hor
            have HBA := Lib.hid ((Below.refl wr.heap.size wr).alloc (Nat.le_refl _) (.cells #[] 3)).drew
            have HBB := Lib.hid (((Below.refl wr.heap.size wr).alloc (Nat.le_refl _) (.cells #[] 3)).alloc (by simp) (.cells #[.int .i64 y] 3)).drew
            have HBC := Lib.hid (((Below.refl wr.heap.size wr).alloc (Nat.le_refl _) (.cells #[.int .i64 y] 3)).alloc (by simp) (.cells #[] 3)).drew
            have HOA := Lib.hid (Own.lit (w := wr) (base := wr.heap.size) [] (Nat.le_refl _) (by simp))
            have HOB := Lib.hid (HOA.out.alloc (.cells #[.int .i64 y] 3))
            have hoc := Own.lit (w := wr.alloc (.cells #[.int .i64 y] 3)) (base := wr.heap.size) [] (by simp) (by simp)
            rw [World.size_alloc] at hoc
            have HOC := Lib.hid hoc
            have HRA := Lib.hid (HRw.out.keep HBA.out (Nat.le_refl _))
            have HRB := Lib.hid (HRw.out.keep HBB.out (Nat.le_refl _))
            have HRC := Lib.hid (HRw.out.keep HBC.out (Nat.le_refl _))
            have hyb := rowL (wr.alloc (.cells #[] 3)) [y]
            rw [World.size_alloc] at hyb
            have HYRB := Lib.hid hyb
            have HYRC := Lib.hid ((rowL wr [y]).keep ((Below.refl (wr.heap.size + 1) (wr.alloc (.cells #[.int .i64 y] 3))).alloc (by simp) (.cells #[] 3)) (by simp))
            clear hoc hyb

            go_upto_region 17 with fail
            go_cut [12] (fun s wx => s = .int .i64 rx ∧ Below wr.heap.size wr wx)
            case first =>
              go_region_law (first
                | (refine step_appL rfl (.tmp 64) (.tmp 65) rfl wr.heap.size _ [] (by rfl) ?_ _ b 0 cap zs (by rfl) HN.out ?_ (by simp) (by omega) ?_ ?_; (first | exact HOA.out | exact HOB.out | exact HOC.out); (first | exact HRA.out | exact HRB.out | exact HRC.out); (first | exact HBA.out.size | exact HBB.out.size | exact HBC.out.size); intro va wa hOa hBa hGa; have HOa := Lib.hid hOa; have HBa := Lib.hid (app_below HBA.out HBB.out HBC.out hBa); (try have HYa := Lib.hid (row_grown HYRB.out hGa (by show (some wr.heap.size : Option Nat) ≠ some (wr.heap.size + 1); simp))); (try have HYa := Lib.hid (row_grown HYRC.out hGa (by show (some (wr.heap.size + 1) : Option Nat) ≠ some wr.heap.size; simp))); clear hOa hBa hGa)
                | (refine step_app1 (w0 := wa) rfl (.tmp 66) (.tmp 73) rfl wr.heap.size _ zs (by rfl) HOa.out y rfl (by rfl) (by omega) HBa.out.size ?_; intro vb wb hOb hBb _; obtain ⟨ys, hys⟩ : ∃ ys, zs ++ [y] = ys := ⟨_, rfl⟩; rw [hys] at hOb; obtain ⟨ay, by_, cy, rfl, _, _, hyr, hyn, _⟩ := hOb.row2; have HYR := Lib.hid hyr; have HVY := Lib.hid (HV1.out ys hys).1; have HRY := Lib.hid (HV1.out ys hys).2; have HBb := Lib.hid (HBa.out.trans hBb); clear hys hOb hyr hyn hBb)
                | (refine step_appL rfl (.tmp 66) (.tmp 73) rfl wr.heap.size _ zs (by rfl) HOa.out _ _ 0 1 [y] (by rfl) (fun h => by cases h) HYa.out (by omega) (by simp) HBa.out.size ?_; intro vb wb hOb hBb _; obtain ⟨ys, hys⟩ : ∃ ys, zs ++ [y] = ys := ⟨_, rfl⟩; rw [hys] at hOb; obtain ⟨ay, by_, cy, rfl, _, _, hyr, hyn, _⟩ := hOb.row2; have HYR := Lib.hid hyr; have HVY := Lib.hid (HV1.out ys hys).1; have HRY := Lib.hid (HV1.out ys hys).2; have HBb := Lib.hid (HBa.out.trans hBb); clear hys hOb hyr hyn hBb)
                | (go_simp; go_at_call 20; refine (askRankV k rx ay by_ 0 cy ys _ (by exact HYR.out) HVY.out HRY.out).mono ?_; rintro e w7 ⟨rfl, hb7⟩))
              all_goals
                have HB7 := Lib.hid (HBb.out.trans (hb7.mono HBb.out.size))
                clear hb7
                go_wp2_with fail
                go_meet
                exact ⟨rfl, HB7.out⟩
            case rest =>
              clear HBA HBB HBC HOA HOB HOC HRA HRB HRC HYRB HYRC e2 e3 e4
              obtain ⟨rfl, hB⟩ := hcut
              have HA5 := Lib.hid (HAR.out.keep hB (Nat.le_refl _))
              have HB5 := Lib.hid (HBw.out.trans (hB.mono HBw.out.size))
              have hkk : (k == k) = true := by simp
              clear hB
              by_cases hq : rx = r
              · have h1 : (rx == r) = true := by rw [beq_iff_eq]; exact hq
                have h2 : ((rx : Int) == (r : Int)) = true := by rw [beq_iff_eq]; omega
                clear hq
                go_wp2_with fail
                refine (askRankV k k ax bx 0 cx AL _ HA5.out HAV.out HARK.out).mono ?_
                rintro e w8 ⟨rfl, hb8⟩
                have HB8 := Lib.hid (HB5.out.trans (hb8.mono HB5.out.size))
                clear hb8
                go_wp2_with fail
                go_ret
                exact ⟨rfl, HB8.out⟩
              · have hq2 : rx = r + 1 := HOR.out.resolve_left hq
                have h1 : (rx == r) = false := by rw [beq_eq_false_iff_ne]; exact hq
                have h2 : ((rx : Int) == (r : Int)) = false := by rw [beq_eq_false_iff_ne]; omega
                have h3 : ((rx : Int) == (r : Int) + 1) = true := by rw [beq_iff_eq]; omega
                have hr6 : r ≤ 6 := by have := Go.AskMath.rnk_le k zs; rw [HRE.out] at this; omega
                clear hq hq2
                go_wp2_with fail
                refine (askRankV k k ax bx 0 cx AL _ HA5.out HAV.out HARK.out).mono ?_
                rintro e w8 ⟨rfl, hb8⟩
                have HB8 := Lib.hid (HB5.out.trans (hb8.mono HB5.out.size))
                clear hb8
                go_wp2_with fail
                go_ret
                exact ⟨rfl, HB8.out⟩
  · by_cases h0 : xs0.length ≤ 1048576
    all_goals
      go_enter Try.func8, Try.ntmps8
      go_wp2_with fail
      go_ret
      exact ⟨rfl, Below.refl _ _⟩

end Go.Proofs.Ytjglikccikeejaa
