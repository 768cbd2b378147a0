/-
  The walk of the law FnTellsPair.
-/
import Derived.Test.YtjglikccikeejabAskV
import Derived.Test.YtjglikccikeejabAskSafe
import Derived.Test.YtjglikccikeejabAskS3
import Derived.Test.YtjglikccikeejabDrawT
namespace Go.Proofs.Ytjglikccikeejab
open Go.RowKit
open Go.AskMath (rnk tel tld)

set_option maxRecDepth 100000 in
set_option maxHeartbeats 1000000 in
theorem walkTellsPair (a0 : Option Addr) (b0 o0 c0 : Nat) (xs0 : List Int) (a1 : Option Addr) (b1 o1 c1 : Nat) (xs1 : List Int) (w : World)
    (hr0 : Row .u8 w a0 b0 o0 xs0) (hl0 : xs0.length ≤ c0 ∧ c0 ≤ 9223372036854775807) (hw0 : ∀ i, i < xs0.length → (Lit.int .u8 (xs0.getD i 0)).wf = true)
    (_hr1 : Row .u8 w a1 b1 o1 xs1) (hl1 : xs1.length ≤ c1 ∧ c1 ≤ 9223372036854775807) (_hw1 : ∀ i, i < xs1.length → (Lit.int .u8 (xs1.getD i 0)).wf = true) :
    Calls Try.prog 8 #[.slice a0 xs0.length c0, .slice a1 xs1.length c1] w fun e w' => e = .returned (.bool true) ∧ Below w.heap.size w w' := by
  obtain ⟨hl01, hl02⟩ := hl0
  obtain ⟨hl11, hl12⟩ := hl1
  by_cases h20 : xs0.length ≤ 1048576 ∧ xs1.length ≤ 1048576
  · obtain ⟨h20, h21⟩ := h20
    go_enter Try.func8, Try.ntmps8
    go_wp2_with fail
    refine (drawTold_any a0 b0 o0 c0 xs0 w hr0 hl01 hw0 hl02).mono ?_
    rintro e w1 ⟨n, v, zs, rfl, hzl, hO, hB⟩
    obtain ⟨ao, b, cap, rfl, hcap, hcap2, hrow, hnil, hao⟩ := hO.row2
    have HAO := Lib.hid hao
    have HN := Lib.hid hnil
    have HR1 := Lib.hid hrow
    have HB1 := Lib.hid hB
    clear hO hnil hrow hB hao hr0 hw0
    obtain ⟨z, hz⟩ : ∃ z : Int, (if vldB n zs then (tld n.toNat zs n.toNat : Int) else -1) = z := ⟨_, rfl⟩
    have HZ := Lib.hid hz
    clear hz
    go_wp2_with fail
    refine (askToldI n ao b 0 cap zs _ HR1.out HN.out (by omega)).mono ?_
    rw [HZ.out]
    rintro e w2 ⟨rfl, hb2⟩
    have HB2 := Lib.hid (HB1.out.trans (hb2.mono HB1.out.size))
    have HR2 := Lib.hid (HR1.out.keep hb2 (Nat.le_refl _))
    clear hb2 HB1 HR1
    go_wp2_with fail
    refine (askToldS n ao b 0 cap zs _ HR2.out HN.out (by omega)).mono ?_
    rw [HZ.out]
    rintro e w3 ⟨rfl, hb3⟩
    have HB3 := Lib.hid (HB2.out.trans (hb3.mono HB2.out.size))
    have HR3 := Lib.hid (HR2.out.keep hb3 (Nat.le_refl _))
    clear hb3 HB2 HR2
    have hzz : (z != z) = false := by simp
    cases hv : vldB n zs with
    | false =>
      have hz1 : z = -1 := by rw [← HZ.out, hv]; rfl
      subst hz1
      clear hv
      go_wp2_with fail
      all_goals
        go_ret
        exact ⟨rfl, HB3.out⟩
    | true =>
      obtain ⟨m, rfl, hm1, hm6, hx12, hx⟩ := vld_range hv
      obtain ⟨r, hr⟩ : ∃ r, tld m zs m = r := ⟨_, rfl⟩
      have hz1 : z = (r : Int) := by rw [← HZ.out, hv, ← hr]; rfl
      subst hz1
      have HX := Lib.hid hx
      have HV := Lib.hid hv
      have HRE := Lib.hid hr
      clear hx hv hr HZ
      have htr : r ≤ m := by rw [← HRE.out]; exact Go.AskMath.tld_le m zs m
      have htrI : (r : Int) ≤ (m : Int) := by omega
      by_cases hcut : zs.length = 0 ∨ zs.length = 12
      · by_cases h0 : zs.length = 0
        · have h0b : (zs.length == 0) = true := by rw [beq_iff_eq]; exact h0
          have h0c : ((zs.length : Int) == 0) = true := by rw [beq_iff_eq]; omega
          clear hcut h0
          go_wp2_with fail
          go_ret
          exact ⟨rfl, HB3.out⟩
        · have h12 : zs.length = 12 := by omega
          have h0b : (zs.length == 0) = false := by rw [beq_eq_false_iff_ne]; exact h0
          have h0c : ((zs.length : Int) == 0) = false := by rw [beq_eq_false_iff_ne]; omega
          have h12b : (zs.length == 12) = true := by rw [beq_iff_eq]; exact h12
          have h12c : ((zs.length : Int) == 12) = true := by rw [beq_iff_eq]; omega
          clear hcut h0 h12
          go_wp2_with fail
          go_ret
          exact ⟨rfl, HB3.out⟩
      · have h0 : 0 < zs.length := by omega
        have hl11 : zs.length ≤ 11 := by omega
        have h0b : (zs.length == 0) = false := by rw [beq_eq_false_iff_ne]; omega
        have h0c : ((zs.length : Int) == 0) = false := by rw [beq_eq_false_iff_ne]; omega
        have h12b : (zs.length == 12) = false := by rw [beq_eq_false_iff_ne]; omega
        have h12c : ((zs.length : Int) == 12) = false := by rw [beq_eq_false_iff_ne]; omega
        clear hcut
        obtain ⟨K, hK⟩ : ∃ K, xs1.length % m = K := ⟨_, rfl⟩
        have hKm : K < m := by rw [← hK]; exact Nat.mod_lt _ (by omega)
        have hKe : (xs1.length : Int) % (m : Int) = (K : Int) := by rw [← hK]; rfl
        have HKE := Lib.hid hKe
        have hm0 : (0 : Int) < (m : Int) := by omega
        clear hK hKe
        go_wp2_with fail
        rw [HKE.out]
        go_loop [10, 11] (fun p i => ∃ k : Nat, k ≤ K ∧ i = .int .i64 k ∧ p = .int .i64 (2 ^ k)) (fun _ i => K - (intOf i).toNat)
        case atStart => exact ⟨0, Nat.zero_le _, rfl, rfl⟩
        case round =>
          obtain ⟨k, hk, rfl, rfl⟩ := hrel
          by_cases hlt : k < K
          · have h2 : (2 : Int) ^ k * 2 = 2 ^ (k + 1) := (Int.pow_succ 2 k).symm
            have H : Hid (wrap64 ((2 : Int) ^ k * 2) = 2 ^ (k + 1)) := by
              show wrap64 ((2 : Int) ^ k * 2) = 2 ^ (k + 1)
              rw [h2]
              have h0 : (0 : Int) ≤ 2 ^ (k + 1) := Int.pow_nonneg (by omega)
              exact IntWalk.wrap64_in _ ⟨by omega, two_le (by omega)⟩
            clear h2
            go_wp2_with fail
            go_round
            case rel => exact ⟨k + 1, by omega, by go_num, int_eq H.out⟩
            case measure => simp [intOf]; omega
          · obtain rfl : k = K := by omega
            obtain ⟨J, hJ⟩ : ∃ J, xs1.length / m % zs.length = J := ⟨_, rfl⟩
            have hJl : J < zs.length := by rw [← hJ]; exact Nat.mod_lt _ h0
            have hJe : (xs1.length : Int) / (m : Int) % (zs.length : Int) = (J : Int) := by rw [← hJ]; rfl
            have hj0 : 0 ≤ (xs1.length : Int) / (m : Int) % (zs.length : Int) := by omega
            have hj1 : (xs1.length : Int) / (m : Int) % (zs.length : Int) < (zs.length : Int) := by omega
            have hd0 : 0 ≤ (xs1.length : Int) / (m : Int) := Int.ediv_nonneg (by omega) (by omega)
            have hd1 : (xs1.length : Int) / (m : Int) ≤ 1048576 := by have := Int.ediv_le_self (m : Int) (show (0 : Int) ≤ (xs1.length : Int) by omega); omega
            have hz0 : (0 : Int) < (zs.length : Int) := by omega
            obtain rfl : ao = some ⟨b, 0, none⟩ := HR3.out.1 h0
            obtain ⟨y, hy⟩ : ∃ y, zs.getD J 0 = y := ⟨_, rfl⟩
            have hc := HR3.out.2 J hJl
            rw [hy, Nat.zero_add, ← hJ] at hc
            have hym : y ∈ zs := by rw [← hy, List.getD_eq_getElem?_getD, List.getElem?_eq_getElem hJl]; exact List.getElem_mem hJl
            obtain ⟨hy1, hy2⟩ := (vld_iff.1 HV.out).2.2.2 y hym
            rw [Int.toNat_natCast] at hy2
            have hpu := unit_range hm6 hKm
            rw [Int.toNat_natCast] at hpu
            have hM64 : (2 : Int) ^ m ≤ 64 := pow_le (a := 2) (k := m) (n := 6) (by decide) hm6
            have hlow : y / 2 ^ k % 2 = 0 → y + 2 ^ k < 2 ^ m := fun h => Go.AskMath.low_bit hy2 hKm h
            have htd0 : y / 2 ^ k % 2 = 0 → ∀ xs : List Int, y ∈ xs → y + 2 ^ k ∈ xs → tel m xs k = true := fun h xs h1 h2 => Go.AskMath.tel_diff hKm h h1 h2
            have htd1 : y / 2 ^ k % 2 = 1 → ∀ xs : List Int, y ∈ xs → y - 2 ^ k ∈ xs → tel m xs k = true := fun h xs h1 h2 => Go.AskMath.tel_diff hKm (Go.AskMath.bit_of_add h) h2 (by unfold Go.AskMath.unit; rw [show y - 2 ^ k + 2 ^ k = y from by omega]; exact h1)
            have hge : y / 2 ^ k % 2 = 1 → 2 ^ k ≤ y := fun h => by
              have hp := Go.AskMath.two_pos k
              refine Classical.byContradiction fun hn => ?_
              rw [Int.ediv_eq_zero_of_lt (by omega) (by omega)] at h
              omega
            have HLOW := Lib.hid hlow
            have HT0 := Lib.hid htd0
            have HT1 := Lib.hid htd1
            have HGE := Lib.hid hge
            have HYM := Lib.hid hym
            clear hJ hJe hy hym hlow htd0 htd1 hge
            obtain ⟨P, hP⟩ : ∃ P : Int, (2 : Int) ^ k = P := ⟨_, rfl⟩
            obtain ⟨M, hM⟩ : ∃ M : Int, (2 : Int) ^ m = M := ⟨_, rfl⟩
            rw [hP] at hpu HLOW HT0 HT1 HGE
            rw [hM] at hpu hy2 hM64 HLOW
            rw [hP]
            have HME := Lib.hid hM
            clear hP hM
            have e1 : Int.tdiv y P = y / P := Int.tdiv_eq_ediv_of_nonneg (by omega)
            have hq0 : 0 ≤ y / P := Int.ediv_nonneg (by omega) (by omega)
            have hq1 : y / P ≤ y := Int.ediv_le_self _ (by omega)
            obtain ⟨Q, hQ⟩ : ∃ Q : Int, y / P = Q := ⟨_, rfl⟩
            rw [hQ] at e1 hq0 hq1 HLOW HT0 HT1 HGE
            have e2 : IntKind.i64.wrap Q = Q := IntWalk.i64_in _ ⟨by omega, by omega⟩
            have e3 : Int.tmod Q 2 = Q % 2 := Int.tmod_eq_emod_of_nonneg hq0
            have hB01 : Q % 2 = 0 ∨ Q % 2 = 1 := by omega
            have hPz : (P == 0) = false := by rw [beq_eq_false_iff_ne]; omega
            have hPn : ¬ P = 0 := by omega
            have fin : ∀ q : Int, tel m (zs ++ [q]) k = true → 1 ≤ q → q < M → (vldB m (zs ++ [q]) && (decide (0 ≤ (k : Int) ∧ (k : Int) < m) && tel (m : Int).toNat (zs ++ [q]) (k : Int).toNat)) = true := fun q ht h1 h2 => by
              rw [vld_app HV.out (fun p hp => by rw [List.mem_singleton] at hp; rw [hp, Int.toNat_natCast, HME.out]; exact ⟨h1, h2⟩) (by simp; omega), decide_eq_true (show 0 ≤ (k : Int) ∧ (k : Int) < m by omega)]
              simp only [Int.toNat_natCast, ht, Bool.and_self]
            have Fin := Lib.hid fin
            clear fin
            rcases hB01 with hB | hB
            · have hlt2 := HLOW.out hB
              have htl := HT0.out hB (zs ++ [y + P]) (List.mem_append_left _ HYM.out) (List.mem_append_right _ (List.mem_singleton.2 rfl))
              have HTE := Lib.hid (Fin.out _ htl (by omega) hlt2)
              have hn0 : (y + P == 0) = false := by rw [beq_eq_false_iff_ne]; omega
              rw [hB] at e3
              clear htl HLOW HT0 HT1 HGE Fin
              have HBa := Lib.hid ((Below.refl w3.heap.size w3).alloc (Nat.le_refl _) (.cells #[] 3))
              have HOa := Lib.hid (Own.lit (w := w3) (base := w3.heap.size) [] (Nat.le_refl _) (by simp))
              have HRa := Lib.hid (HR3.out.keep HBa.out (Nat.le_refl _))
              go_wp2_with (at_builtin; refine wpList_appL rfl (.tmp 89) (.tmp 90) rfl w3.heap.size _ [] rfl HOa.out (some ⟨b, 0, none⟩) b 0 cap zs rfl HN.out HRa.out (by simp) (by omega) HBa.out.size ?_)
              intro va wa hOa hBa _
              have HOb := Lib.hid hOa
              have HBb := Lib.hid (HBa.out.trans hBa)
              clear hOa hBa HOa HBa HRa
              go_wp2_with (at_builtin; refine wpList_app1 rfl (.tmp 91) (.tmp 93) rfl w3.heap.size _ zs rfl HOb.out (y + P) rfl rfl (by omega) HBb.out.size ?_)
              intro vb wb hOb hBb _
              obtain ⟨ys, hys⟩ : ∃ ys, zs ++ [(y + P)] = ys := ⟨_, rfl⟩
              have hyl : ys.length = zs.length + 1 := by rw [← hys]; simp
              have HYL := Lib.hid hyl
              rw [hys] at hOb
              obtain ⟨ay, by_, cy, rfl, hyc, hyc2, hyr, hyn, hya⟩ := hOb.row2
              have HYO := Lib.hid hOb
              have HYS := Lib.hid hys
              have HYR := Lib.hid hyr
              have HYN := Lib.hid hyn
              have HYA := Lib.hid hya
              have HYB := Lib.hid (HB3.out.trans ((HBb.out.trans hBb).mono HB3.out.size))
              have HRb := Lib.hid (HR3.out.keep (HBb.out.trans hBb) (Nat.le_refl _))
              have HYSZ := Lib.hid (HBb.out.trans hBb).size
              clear hys hyr hyn hya hOb hBb HOb HBb hyl

              rw [HYS.out] at HTE
              go_wp2_with fail
              refine (askTellsI m k ay by_ 0 cy ys _ HYR.out HYN.out (by have := HYL.out; omega)).mono ?_
              rw [HTE.out]
              rintro e w7 ⟨rfl, hb7⟩
              have HB7 := Lib.hid (HYB.out.trans (hb7.mono HYB.out.size))
              clear hb7
              go_wp2_with fail
              go_ret
              exact ⟨rfl, HB7.out⟩
            · have hge2 := HGE.out hB
              have htl := HT1.out hB (zs ++ [y - P]) (List.mem_append_left _ HYM.out) (List.mem_append_right _ (List.mem_singleton.2 rfl))
              rw [hB] at e3
              by_cases hyP : y = P
              · subst hyP
                clear htl HLOW HT0 HT1 HGE Fin hge2
                go_wp2_with fail
                go_ret
                exact ⟨rfl, HB3.out⟩
              · have HTE := Lib.hid (Fin.out _ htl (by omega) (by omega))
                have hn0 : (y - P == 0) = false := by rw [beq_eq_false_iff_ne]; omega
                clear htl HLOW HT0 HT1 HGE Fin
                have HBa := Lib.hid ((Below.refl w3.heap.size w3).alloc (Nat.le_refl _) (.cells #[] 3))
                have HOa := Lib.hid (Own.lit (w := w3) (base := w3.heap.size) [] (Nat.le_refl _) (by simp))
                have HRa := Lib.hid (HR3.out.keep HBa.out (Nat.le_refl _))
                go_wp2_with (at_builtin; refine wpList_appL rfl (.tmp 89) (.tmp 90) rfl w3.heap.size _ [] rfl HOa.out (some ⟨b, 0, none⟩) b 0 cap zs rfl HN.out HRa.out (by simp) (by omega) HBa.out.size ?_)
                intro va wa hOa hBa _
                have HOb := Lib.hid hOa
                have HBb := Lib.hid (HBa.out.trans hBa)
                clear hOa hBa HOa HBa HRa
                go_wp2_with (at_builtin; refine wpList_app1 rfl (.tmp 91) (.tmp 93) rfl w3.heap.size _ zs rfl HOb.out (y - P) rfl rfl (by omega) HBb.out.size ?_)
                intro vb wb hOb hBb _
                obtain ⟨ys, hys⟩ : ∃ ys, zs ++ [(y - P)] = ys := ⟨_, rfl⟩
                have hyl : ys.length = zs.length + 1 := by rw [← hys]; simp
                have HYL := Lib.hid hyl
                rw [hys] at hOb
                obtain ⟨ay, by_, cy, rfl, hyc, hyc2, hyr, hyn, hya⟩ := hOb.row2
                have HYO := Lib.hid hOb
                have HYS := Lib.hid hys
                have HYR := Lib.hid hyr
                have HYN := Lib.hid hyn
                have HYA := Lib.hid hya
                have HYB := Lib.hid (HB3.out.trans ((HBb.out.trans hBb).mono HB3.out.size))
                have HRb := Lib.hid (HR3.out.keep (HBb.out.trans hBb) (Nat.le_refl _))
                have HYSZ := Lib.hid (HBb.out.trans hBb).size
                clear hys hyr hyn hya hOb hBb HOb HBb hyl

                rw [HYS.out] at HTE
                go_wp2_with fail
                refine (askTellsI m k ay by_ 0 cy ys _ HYR.out HYN.out (by have := HYL.out; omega)).mono ?_
                rw [HTE.out]
                rintro e w7 ⟨rfl, hb7⟩
                have HB7 := Lib.hid (HYB.out.trans (hb7.mono HYB.out.size))
                clear hb7
                go_wp2_with fail
                go_ret
                exact ⟨rfl, HB7.out⟩
  · by_cases h0 : xs0.length ≤ 1048576
    all_goals
      go_enter Try.func8, Try.ntmps8
      go_wp2_with fail
      go_ret
      exact ⟨rfl, Below.refl _ _⟩

end Go.Proofs.Ytjglikccikeejab
