/-
  The walks of laws on safe questions: FnSafe33, FnSafeTwice.
-/
import Derived.Test.YtjglikccikeejabAskV
import Derived.Test.YtjglikccikeejabDrawS
namespace Go.Proofs.Ytjglikccikeejab
open Go.RowKit
open Go.AskMath (rnk tel tld)

set_option maxRecDepth 100000 in
set_option maxHeartbeats 1000000 in
theorem walkSafe33 (a0 : Option Addr) (b0 o0 c0 : Nat) (xs0 : List Int) (w : World)
    (hr0 : Row .u8 w a0 b0 o0 xs0) (hl0 : xs0.length ≤ c0 ∧ c0 ≤ 9223372036854775807) (hw0 : ∀ i, i < xs0.length → (Lit.int .u8 (xs0.getD i 0)).wf = true) :
    Calls Try.prog 11 #[.slice a0 xs0.length c0] w fun e w' => e = .returned (.bool true) ∧ Below w.heap.size w w' := by
  obtain ⟨hl01, hl02⟩ := hl0
  by_cases h20 : xs0.length ≤ 1048576
  · skip
    go_enter Try.func11, Try.ntmps11
    go_wp2_with fail
    refine (drawSafe_any a0 b0 o0 c0 xs0 w hr0 hl01 hw0 hl02).mono ?_
    rintro e w1 ⟨n, v, zs, i, rfl, hzl, hO, hB⟩
    obtain ⟨ao, b, cap, rfl, hcap, hcap2, hrow, hnil, hao⟩ := hO.row2
    have HAO := Lib.hid hao
    have HN := Lib.hid hnil
    have HR1 := Lib.hid hrow
    have HB1 := Lib.hid hB
    clear hO hnil hrow hB hao hr0 hw0
    obtain ⟨z, hz⟩ : ∃ z : Bool, (safeB n zs i) = z := ⟨_, rfl⟩
    have HZ := Lib.hid hz
    clear hz
    go_wp2_with fail
    refine (askSafeI n i ao b 0 cap zs _ HR1.out HN.out (by omega)).mono ?_
    rw [HZ.out]
    rintro e w2 ⟨rfl, hb2⟩
    have HB2 := Lib.hid (HB1.out.trans (hb2.mono HB1.out.size))
    have HR2 := Lib.hid (HR1.out.keep hb2 (Nat.le_refl _))
    clear hb2 HB1 HR1
    go_wp2_with fail
    refine (askSafeS n i ao b 0 cap zs _ HR2.out HN.out (by omega)).mono ?_
    rw [HZ.out]
    rintro e w3 ⟨rfl, hb3⟩
    have HB3 := Lib.hid (HB2.out.trans (hb3.mono HB2.out.size))
    have HR3 := Lib.hid (HR2.out.keep hb3 (Nat.le_refl _))
    clear hb3 HB2 HR2
    have hzz : (z != z) = false := by simp
    cases hv : z with
    | false =>
      subst hv
      go_wp2_with fail
      all_goals
        go_ret
        exact ⟨rfl, HB3.out⟩
    | true =>
      subst hv
      obtain ⟨hv, ht⟩ := safe_t HZ.out
      obtain ⟨m, rfl, hm1, hm6, hx12, hx⟩ := vld_range (vld_front hv)
      have HX := Lib.hid hx
      have HVY := Lib.hid hv
      have HV := Lib.hid (vld_front hv)
      have HT := Lib.hid (show tld m (zs ++ [i]) m = 0 from ht)
      clear hx hv ht HZ
      have HBa := Lib.hid ((Below.refl w3.heap.size w3).alloc (Nat.le_refl _) (.cells #[] 3))
      have HOa := Lib.hid (Own.lit (w := w3) (base := w3.heap.size) [] (Nat.le_refl _) (by simp))
      have HRa := Lib.hid (HR3.out.keep HBa.out (Nat.le_refl _))
      go_wp2_with (at_builtin; refine wpList_appL rfl (.tmp 36) (.tmp 37) rfl w3.heap.size _ [] rfl HOa.out ao b 0 cap zs rfl HN.out HRa.out (by simp) (by omega) HBa.out.size ?_)
      intro va wa hOa hBa _
      have HOb := Lib.hid hOa
      have HBb := Lib.hid (HBa.out.trans hBa)
      clear hOa hBa HOa HBa HRa
      go_wp2_with (at_builtin; refine wpList_app1 rfl (.tmp 38) (.tmp 40) rfl w3.heap.size _ zs rfl HOb.out i rfl rfl (by omega) HBb.out.size ?_)
      intro vb wb hOb hBb _
      obtain ⟨ys, hys⟩ : ∃ ys, zs ++ [i] = ys := ⟨_, rfl⟩
      have hyl : ys.length = zs.length + 1 := by rw [← hys]; simp
      have HYL := Lib.hid hyl
      rw [hys] at hOb
      obtain ⟨ay, by_, cy, rfl, hyc, hyc2, hyr, hyn, hya⟩ := hOb.row2
      have HYO := Lib.hid hOb
      have HYS := Lib.hid hys
      have HYR := Lib.hid hyr
      have HYN := Lib.hid hyn
      have HYA := Lib.hid hya
      have HYB := Lib.hid (HB3.out.trans ((HBb.out.trans hBb).mono HB3.out.size))
      have HRb := Lib.hid (HR3.out.keep (HBb.out.trans hBb) (Nat.le_refl _))
      have HYSZ := Lib.hid (HBb.out.trans hBb).size
      clear hys hyr hyn hya hOb hBb HOb HBb hyl

      have hvy : vldB m ys = true := by rw [← HYS.out]; exact HVY.out

      have hty : tld m ys m = 0 := by rw [← HYS.out]; exact HT.out
      have htz : tld m zs m = 0 := by
        have := Go.AskMath.tld_sub (n := m) (a := zs) (b := zs ++ [i]) (fun q hq => List.mem_append_left _ hq) m
        have := HT.out; omega
      have hrk : rnk m ys < m := Go.AskMath.rnk_safe hm1 hty
      obtain ⟨r2, hr2⟩ : ∃ r2, rnk m ys = r2 := ⟨_, rfl⟩
      rw [hr2] at hrk
      have HVY2 := Lib.hid hvy
      have HTY := Lib.hid hty
      have HTZ := Lib.hid htz
      have HRE := Lib.hid hr2
      clear hvy hty htz hr2
      go_wp2_with fail
      refine (askToldV m 0 ay by_ 0 cy ys _ HYR.out HYN.out HVY2.out HTY.out).mono ?_
      rintro e w5 ⟨rfl, hb5⟩
      have HB5 := Lib.hid (HYB.out.trans (hb5.mono HYB.out.size))
      have HR5 := Lib.hid (HRb.out.keep hb5 (Nat.le_refl _))
      have HY5 := Lib.hid (HYR.out.keep hb5 (Nat.le_refl _))
      clear hb5
      go_wp2_with fail
      refine (askToldV m 0 ao b 0 cap zs _ HR5.out HN.out HV.out HTZ.out).mono ?_
      rintro e w6 ⟨rfl, hb6⟩
      have HB6 := Lib.hid (HB5.out.trans (hb6.mono HB5.out.size))
      have HY6 := Lib.hid (HY5.out.keep hb6 (Nat.le_refl _))
      clear hb6
      go_wp2_with fail
      refine (askRankV m r2 ay by_ 0 cy ys _ HY6.out HVY2.out HRE.out).mono ?_
      rintro e w7 ⟨rfl, hb7⟩
      have HB7 := Lib.hid (HB6.out.trans (hb7.mono HB6.out.size))
      clear hb7
      go_wp2_with fail
      go_ret
      exact ⟨rfl, HB7.out⟩
  · go_enter Try.func11, Try.ntmps11
    go_wp2_with fail
    go_ret
    exact ⟨rfl, Below.refl _ _⟩

set_option maxRecDepth 100000 in
set_option maxHeartbeats 1000000 in
theorem walkSafeTwice (a0 : Option Addr) (b0 o0 c0 : Nat) (xs0 : List Int) (a1 : Option Addr) (b1 o1 c1 : Nat) (xs1 : List Int) (w : World)
    (hr0 : Row .u8 w a0 b0 o0 xs0) (hl0 : xs0.length ≤ c0 ∧ c0 ≤ 9223372036854775807) (hw0 : ∀ i, i < xs0.length → (Lit.int .u8 (xs0.getD i 0)).wf = true)
    (_hr1 : Row .u8 w a1 b1 o1 xs1) (hl1 : xs1.length ≤ c1 ∧ c1 ≤ 9223372036854775807) (_hw1 : ∀ i, i < xs1.length → (Lit.int .u8 (xs1.getD i 0)).wf = true) :
    Calls Try.prog 9 #[.slice a0 xs0.length c0, .slice a1 xs1.length c1] w fun e w' => e = .returned (.bool true) ∧ Below w.heap.size w w' := by
  obtain ⟨hl01, hl02⟩ := hl0
  obtain ⟨hl11, hl12⟩ := hl1
  by_cases h20 : xs0.length ≤ 1048576 ∧ xs1.length ≤ 1048576
  · obtain ⟨h20, h21⟩ := h20
    go_enter Try.func9, Try.ntmps9
    go_wp2_with fail
    refine (drawSafe_any a0 b0 o0 c0 xs0 w hr0 hl01 hw0 hl02).mono ?_
    rintro e w1 ⟨n, v, zs, i, rfl, hzl, hO, hB⟩
    obtain ⟨ao, b, cap, rfl, hcap, hcap2, hrow, hnil, hao⟩ := hO.row2
    have HAO := Lib.hid hao
    have HN := Lib.hid hnil
    have HR1 := Lib.hid hrow
    have HB1 := Lib.hid hB
    clear hO hnil hrow hB hao hr0 hw0
    obtain ⟨z, hz⟩ : ∃ z : Bool, (safeB n zs i) = z := ⟨_, rfl⟩
    have HZ := Lib.hid hz
    clear hz
    go_wp2_with fail
    refine (askSafeI n i ao b 0 cap zs _ HR1.out HN.out (by omega)).mono ?_
    rw [HZ.out]
    rintro e w2 ⟨rfl, hb2⟩
    have HB2 := Lib.hid (HB1.out.trans (hb2.mono HB1.out.size))
    have HR2 := Lib.hid (HR1.out.keep hb2 (Nat.le_refl _))
    clear hb2 HB1 HR1
    go_wp2_with fail
    refine (askSafeS n i ao b 0 cap zs _ HR2.out HN.out (by omega)).mono ?_
    rw [HZ.out]
    rintro e w3 ⟨rfl, hb3⟩
    have HB3 := Lib.hid (HB2.out.trans (hb3.mono HB2.out.size))
    have HR3 := Lib.hid (HR2.out.keep hb3 (Nat.le_refl _))
    clear hb3 HB2 HR2
    have hzz : (z != z) = false := by simp
    cases hv : z with
    | false =>
      subst hv
      go_wp2_with fail
      all_goals
        go_ret
        exact ⟨rfl, HB3.out⟩
    | true =>
      subst hv
      obtain ⟨hv, ht⟩ := safe_t HZ.out
      obtain ⟨m, rfl, hm1, hm6, hx12, hx⟩ := vld_range (vld_front hv)
      have HX := Lib.hid hx
      have HVY := Lib.hid hv
      have HV := Lib.hid (vld_front hv)
      have HT := Lib.hid (show tld m (zs ++ [i]) m = 0 from ht)
      clear hx hv ht HZ
      have HBa := Lib.hid ((Below.refl w3.heap.size w3).alloc (Nat.le_refl _) (.cells #[] 3))
      have HOa := Lib.hid (Own.lit (w := w3) (base := w3.heap.size) [] (Nat.le_refl _) (by simp))
      have HRa := Lib.hid (HR3.out.keep HBa.out (Nat.le_refl _))
      go_wp2_with (at_builtin; refine wpList_appL rfl (.tmp 44) (.tmp 45) rfl w3.heap.size _ [] rfl HOa.out ao b 0 cap zs rfl HN.out HRa.out (by simp) (by omega) HBa.out.size ?_)
      intro va wa hOa hBa _
      have HOb := Lib.hid hOa
      have HBb := Lib.hid (HBa.out.trans hBa)
      clear hOa hBa HOa HBa HRa
      go_wp2_with (at_builtin; refine wpList_app1 rfl (.tmp 46) (.tmp 48) rfl w3.heap.size _ zs rfl HOb.out i rfl rfl (by omega) HBb.out.size ?_)
      intro vb wb hOb hBb _
      obtain ⟨ys, hys⟩ : ∃ ys, zs ++ [i] = ys := ⟨_, rfl⟩
      have hyl : ys.length = zs.length + 1 := by rw [← hys]; simp
      have HYL := Lib.hid hyl
      rw [hys] at hOb
      obtain ⟨ay, by_, cy, rfl, hyc, hyc2, hyr, hyn, hya⟩ := hOb.row2
      have HYO := Lib.hid hOb
      have HYS := Lib.hid hys
      have HYR := Lib.hid hyr
      have HYN := Lib.hid hyn
      have HYA := Lib.hid hya
      have HYB := Lib.hid (HB3.out.trans ((HBb.out.trans hBb).mono HB3.out.size))
      have HRb := Lib.hid (HR3.out.keep (HBb.out.trans hBb) (Nat.le_refl _))
      have HYSZ := Lib.hid (HBb.out.trans hBb).size
      clear hys hyr hyn hya hOb hBb HOb HBb hyl

      have hvy : vldB m ys = true := by rw [← HYS.out]; exact HVY.out
      have hty : tld m ys m = 0 := by rw [← HYS.out]; exact HT.out
      have HVY2 := Lib.hid hvy
      have HTY := Lib.hid hty
      have hyl := HYL.out
      clear hvy hty
      by_cases h12 : 12 ≤ ys.length
      · have h12I : (12 : Int) ≤ (ys.length : Int) := by omega
        clear hyl
        go_wp2_with fail
        refine (askToldV m 0 ay by_ 0 cy ys _ HYR.out HYN.out HVY2.out HTY.out).mono ?_
        rintro e w5 ⟨rfl, hb5⟩
        have HB5 := Lib.hid (HYB.out.trans (hb5.mono HYB.out.size))
        clear hb5
        go_wp2_with fail
        go_ret
        exact ⟨rfl, HB5.out⟩
      · have h0 : 0 < ys.length := by omega
        have h0I : (0 : Int) < (ys.length : Int) := by omega
        obtain ⟨K, hK⟩ : ∃ K, xs1.length % ys.length = K := ⟨_, rfl⟩
        have hKm : K < ys.length := by rw [← hK]; exact Nat.mod_lt _ h0
        have hKe : (xs1.length : Int) % (ys.length : Int) = (K : Int) := by rw [← hK]; rfl
        have hKi : (K : Int) < (ys.length : Int) := by omega
        have HKE := Lib.hid hKe
        have HSF := Lib.hid (fun (q : Int) (hq : q ∈ ys) => (show safeB m ys q = true by
          have hv : vldB m (ys ++ [q]) = true := vld_app HVY2.out (fun p hp => by
            rw [List.mem_singleton] at hp
            rw [hp]
            exact (vld_iff.1 HVY2.out).2.2.2 q hq) (by simp; omega)
          have ht : tld m (ys ++ [q]) m = tld m ys m := Go.AskMath.tld_same (fun p => by
            rw [List.mem_append, List.mem_singleton]
            exact ⟨fun h => h.elim id (fun e => e ▸ hq), .inl⟩) m
          unfold safeB
          rw [hv, if_pos rfl]
          simp only [Int.toNat_natCast, ht, HTY.out]
          rfl))
        obtain ⟨y, hy⟩ : ∃ y, ys.getD K 0 = y := ⟨_, rfl⟩
        have hym : y ∈ ys := by rw [← hy, List.getD_eq_getElem?_getD, List.getElem?_eq_getElem hKm]; exact List.getElem_mem hKm
        have him : i ∈ ys := by rw [← HYS.out]; exact List.mem_append_right _ (List.mem_singleton.2 rfl)
        have hs1 := HSF.out i him
        have hs2 := HSF.out y hym
        have HS1 := Lib.hid hs1
        have HS2 := Lib.hid hs2
        have HYE := Lib.hid hy
        clear hK hKe hyl hy hym him hs1 hs2 HSF
        go_wp2_with fail
        rw [HKE.out]
        refine (askSafeI m i ay by_ 0 cy ys _ HYR.out HYN.out (by omega)).mono ?_
        rw [HS1.out]
        rintro e w5 ⟨rfl, hb5⟩
        have HB5 := Lib.hid (HYB.out.trans (hb5.mono HYB.out.size))
        have HY5 := Lib.hid (HYR.out.keep hb5 (Nat.le_refl _))
        obtain rfl : ay = some ⟨by_, 0, none⟩ := HYR.out.1 h0
        have hc := HY5.out.2 K hKm
        rw [HYE.out, Nat.zero_add] at hc
        clear hb5
        go_wp2_with fail
        refine (askSafeI m y (some ⟨by_, 0, none⟩) by_ 0 cy ys _ HY5.out HYN.out (by omega)).mono ?_
        rw [HS2.out]
        rintro e w6 ⟨rfl, hb6⟩
        have HB6 := Lib.hid (HB5.out.trans (hb6.mono HB5.out.size))
        clear hb6
        go_wp2_with fail
        go_ret
        exact ⟨rfl, HB6.out⟩
  · by_cases h0 : xs0.length ≤ 1048576
    all_goals
      go_enter Try.func9, Try.ntmps9
      go_wp2_with fail
      go_ret
      exact ⟨rfl, Below.refl _ _⟩

end Go.Proofs.Ytjglikccikeejab
