/-
  The walk of the law FnTellsOrder.
-/
import Derived.Test.YtjglikccikeejabAskW
import Derived.Test.YtjglikccikeejabAskSafe
import Derived.Test.YtjglikccikeejabAskS3
import Derived.Test.YtjglikccikeejabDrawT
import Derived.Test.YtjglikccikeejabDrawM
import Derived.Deep.RegionLaw
import Derived.Deep.DeepCutAuto
namespace Go.Proofs.Ytjglikccikeejab
open Go.RowKit
open Go.AskMath (rnk tel tld)

set_option maxRecDepth 100000 in
set_option maxHeartbeats 1000000 in
theorem walkTellsOrder (a0 : Option Addr) (b0 o0 c0 : Nat) (xs0 : List Int) (a1 : Option Addr) (b1 o1 c1 : Nat) (xs1 : List Int) (w : World)
    (hr0 : Row .u8 w a0 b0 o0 xs0) (hl0 : xs0.length ≤ c0 ∧ c0 ≤ 9223372036854775807) (hw0 : ∀ i, i < xs0.length → (Lit.int .u8 (xs0.getD i 0)).wf = true)
    (_hr1 : Row .u8 w a1 b1 o1 xs1) (hl1 : xs1.length ≤ c1 ∧ c1 ≤ 9223372036854775807) (_hw1 : ∀ i, i < xs1.length → (Lit.int .u8 (xs1.getD i 0)).wf = true) :
    Calls Try.prog 3 #[.slice a0 xs0.length c0, .slice a1 xs1.length c1] w fun e w' => e = .returned (.bool true) ∧ Below w.heap.size w w' := by
  obtain ⟨hl01, hl02⟩ := hl0
  obtain ⟨hl11, hl12⟩ := hl1
  by_cases h20 : xs0.length ≤ 1048576 ∧ xs1.length ≤ 1048576
  · obtain ⟨h20, h21⟩ := h20
    go_enter Try.func3, Try.ntmps3
    go_wp2_with fail
    refine (drawTells_any a0 b0 o0 c0 xs0 w hr0 hl01 hw0 hl02).mono ?_
    rintro e w1 ⟨n, v, zs, i, rfl, hzl, hO, hB⟩
    obtain ⟨ao, b, cap, rfl, hcap, hcap2, hrow, hnil, hao⟩ := hO.row2
    have HAO := Lib.hid hao
    have HN := Lib.hid hnil
    have HR1 := Lib.hid hrow
    have HB1 := Lib.hid hB
    clear hO hnil hrow hB hao hr0 hw0
    obtain ⟨z, hz⟩ : ∃ z : Bool, (vldB n zs && (decide (0 ≤ i ∧ i < n) && tel n.toNat zs i.toNat)) = z := ⟨_, rfl⟩
    have HZ := Lib.hid hz
    clear hz
    go_wp2_with fail
    refine (askTellsI n i ao b 0 cap zs _ HR1.out HN.out (by omega)).mono ?_
    rw [HZ.out]
    rintro e w2 ⟨rfl, hb2⟩
    have HB2 := Lib.hid (HB1.out.trans (hb2.mono HB1.out.size))
    have HR2 := Lib.hid (HR1.out.keep hb2 (Nat.le_refl _))
    clear hb2 HB1 HR1
    go_wp2_with fail
    refine (askTellsS n i ao b 0 cap zs _ HR2.out HN.out (by omega)).mono ?_
    rw [HZ.out]
    rintro e w3 ⟨rfl, hb3⟩
    have HB3 := Lib.hid (HB2.out.trans (hb3.mono HB2.out.size))
    have HR3 := Lib.hid (HR2.out.keep hb3 (Nat.le_refl _))
    clear hb3 HB2 HR2
    have hzz : (z != z) = false := by simp
    cases hv : z with
    | false =>
      subst hv
      go_wp2_with fail
      all_goals
        go_ret
        exact ⟨rfl, HB3.out⟩
    | true =>
      subst hv
      have hz1 := HZ.out
      rw [Bool.and_eq_true, Bool.and_eq_true, decide_eq_true_eq] at hz1
      obtain ⟨hv, ⟨hi0, hi1⟩, ht⟩ := hz1
      obtain ⟨m, rfl, hm1, hm6, hx12, hx⟩ := vld_range hv
      obtain ⟨j, rfl⟩ := Int.eq_ofNat_of_zero_le hi0
      have hjm : j < m := by omega
      have HX := Lib.hid hx
      have HV := Lib.hid hv
      have HT := Lib.hid (show tel m zs j = true from ht)
      clear hx hv ht hi0 hi1 HZ
      obtain ⟨K, hK⟩ : ∃ K, xs1.length % (zs.length + 1) = K := ⟨_, rfl⟩
      have hK1 : K ≤ zs.length := by have := Nat.mod_lt xs1.length (show 0 < zs.length + 1 by omega); omega
      have hKe : (xs1.length : Int) % ((zs.length : Int) + 1) = (K : Int) := by rw [← hK]; rfl
      have HKE := Lib.hid hKe
      clear hK hKe
      go_wp2_with fail
      rw [HKE.out]
      have HB4 := Lib.hid ((Below.refl w3.heap.size w3).alloc (Nat.le_refl _) (.cells #[] 3)).drew
      have HO0 := Lib.hid (Own.lit (w := w3) (base := w3.heap.size) [] (Nat.le_refl _) (by simp))
      have HR4 := Lib.hid (HR3.out.keep HB4.out (Nat.le_refl _))
      have hkz : (K : Int) ≤ (zs.length : Int) := by omega
      have hkc : (K : Int) ≤ (cap : Int) := by omega
      have hkc2 : K ≤ cap := by omega
      have htk : (zs.take K).length = K := by rw [List.length_take]; omega
      have HTK := Lib.hid htk
      have hdl : (zs.drop K).length = zs.length - K := List.length_drop
      have HDL := Lib.hid hdl
      clear htk hdl
      have hrot : ∀ X : List Int, (∀ q, q ∈ X ↔ q ∈ zs) → X.length = zs.length → vldB m X = true ∧ tel m X j = true := fun X h1 h2 =>
        ⟨vld_sub HV.out (fun q hq => (h1 q).1 hq) (by rw [h2]; exact hx12), by rw [Go.AskMath.tel_same h1]; exact HT.out⟩
      have HROT1 := Lib.hid (fun (X : List Int) (h : zs.drop K ++ zs.take K = X) => hrot X (by rw [← h]; exact mem_rot K) (by rw [← h, List.length_append, HDL.out, HTK.out]; omega))
      have HROT2 := Lib.hid (fun (X : List Int) (hk : zs.length ≤ K) (h : [] ++ zs.take K = X) => hrot X (by rw [← h, List.take_of_length_le hk]; simp) (by rw [← h, List.take_of_length_le hk]; simp))
      clear hrot
      rcases HAO.out with hn | hn
      · exfalso
        subst hn
        have hc0 := HN.out rfl
        have hz0 : zs.length = 0 := by omega
        have hzn : zs = [] := List.length_eq_zero_iff.1 hz0
        subst hzn
        exact tel_nil hm6 hjm HT.out
      · subst hn
        have HRD := Lib.hid (HR4.out.drop2 (K := K) hcap)
        by_cases hcK : cap = K
        · have hrd := HRD.out
          rw [if_pos hcK] at hrd
          have HRD := Lib.hid hrd
          clear hrd
          obtain rfl : K = cap := hcK.symm
          clear hcK
          go_region_law (first
            | (refine step_appL rfl (.tmp 54) (.tmp 57) rfl w3.heap.size _ [] (by rfl) HO0.out (some ⟨b, 0, none⟩) b 0 K (zs.take K) (by rw [HTK.out]; rfl) (fun h => by cases h) (HR4.out.take K) (by simp) (by rw [HTK.out]; omega) HB4.out.size ?_; intro v6 w6 hO6 hB6 _; obtain ⟨X, hX⟩ : ∃ X, [] ++ zs.take K = X := ⟨_, rfl⟩; rw [hX] at hO6; obtain ⟨ax, bx, cx, rfl, _, _, hrx, hnx, _⟩ := hO6.row2; have HXR := Lib.hid hrx; have HXN := Lib.hid hnx; have HVX := Lib.hid ((fun (X : List Int) hX => HROT2.out X hcap hX) X hX).1; have HTX := Lib.hid ((fun (X : List Int) hX => HROT2.out X hcap hX) X hX).2; have HB6 := Lib.hid (HB4.out.trans hB6); clear hX hO6 hrx hnx hB6)
            | (go_simp; go_at_call 16; refine (askTellsV m j ax bx 0 cx X _ (by exact HXR.out) HXN.out HVX.out hjm HTX.out).mono ?_; rintro e w7 ⟨rfl, hb7⟩))
          all_goals
            have HB7 := Lib.hid (HB3.out.trans ((HB6.out.trans (hb7.mono HB6.out.size)).mono HB3.out.size))
            clear hb7
            go_wp2_with fail
            go_ret
            exact ⟨rfl, HB7.out⟩
        · have hrd := HRD.out
          rw [if_neg hcK] at hrd
          have HRD := Lib.hid hrd
          clear hrd
          go_region_law (first
            | (refine step_appL rfl (.tmp 50) (.tmp 53) rfl w3.heap.size _ [] (by rfl) HO0.out (some ⟨b, K, none⟩) b K (cap - K) (zs.drop K) (by rw [HDL.out]; rfl) (fun h => by cases h) HRD.out (by simp) (by rw [HDL.out]; omega) HB4.out.size ?_; intro v5 w5 hO5 hB5 _; have HO5 := Lib.hid hO5; have HB5 := Lib.hid (HB4.out.trans hB5); have HR5 := Lib.hid (HR4.out.keep2 hB5 HR3.out.lt))
            | (refine step_appL rfl (.tmp 54) (.tmp 57) rfl w3.heap.size _ (zs.drop K) (by rfl) HO5.out (some ⟨b, 0, none⟩) b 0 cap (zs.take K) (by rw [HTK.out]; rfl) (fun h => by cases h) (HR5.out.take K) (by rw [HDL.out]; omega) (by rw [HTK.out]; omega) HB5.out.size ?_; intro v6 w6 hO6 hB6 _; obtain ⟨X, hX⟩ : ∃ X, zs.drop K ++ zs.take K = X := ⟨_, rfl⟩; rw [hX] at hO6; obtain ⟨ax, bx, cx, rfl, _, _, hrx, hnx, _⟩ := hO6.row2; have HXR := Lib.hid hrx; have HXN := Lib.hid hnx; have HVX := Lib.hid ((fun (X : List Int) hX => HROT1.out X hX) X hX).1; have HTX := Lib.hid ((fun (X : List Int) hX => HROT1.out X hX) X hX).2; have HB6 := Lib.hid (HB5.out.trans hB6); clear hX hO6 hrx hnx hB6)
            | (go_simp; go_at_call 16; refine (askTellsV m j ax bx 0 cx X _ (by exact HXR.out) HXN.out HVX.out hjm HTX.out).mono ?_; rintro e w7 ⟨rfl, hb7⟩))
          all_goals
            have HB7 := Lib.hid (HB3.out.trans ((HB6.out.trans (hb7.mono HB6.out.size)).mono HB3.out.size))
            clear hb7
            go_wp2_with fail
            go_ret
            exact ⟨rfl, HB7.out⟩
  · by_cases h0 : xs0.length ≤ 1048576
    all_goals
      go_enter Try.func3, Try.ntmps3
      go_wp2_with fail
      go_ret
      exact ⟨rfl, Below.refl _ _⟩

end Go.Proofs.Ytjglikccikeejab
