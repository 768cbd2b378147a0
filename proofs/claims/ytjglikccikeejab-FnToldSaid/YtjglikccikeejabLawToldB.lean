/-
  The walks of laws on told persons: FnTold, FnToldMore.
-/
import Derived.Test.YtjglikccikeejabAskV
import Derived.Test.YtjglikccikeejabAskSafe
import Derived.Test.YtjglikccikeejabAskS3
import Derived.Test.YtjglikccikeejabDrawT
namespace Go.Proofs.Ytjglikccikeejab
open Go.RowKit
open Go.AskMath (rnk tel tld)

set_option maxRecDepth 100000 in
set_option maxHeartbeats 1000000 in
theorem walkTold (a0 : Option Addr) (b0 o0 c0 : Nat) (xs0 : List Int) (w : World)
    (hr0 : Row .u8 w a0 b0 o0 xs0) (hl0 : xs0.length ≤ c0 ∧ c0 ≤ 9223372036854775807) (hw0 : ∀ i, i < xs0.length → (Lit.int .u8 (xs0.getD i 0)).wf = true) :
    Calls Try.prog 10 #[.slice a0 xs0.length c0] w fun e w' => e = .returned (.bool true) ∧ Below w.heap.size w w' := by
  obtain ⟨hl01, hl02⟩ := hl0
  by_cases h20 : xs0.length ≤ 1048576
  · skip
    go_enter Try.func10, Try.ntmps10
    go_wp2_with fail
    refine (drawTold_any a0 b0 o0 c0 xs0 w hr0 hl01 hw0 hl02).mono ?_
    rintro e w1 ⟨n, v, zs, rfl, hzl, hO, hB⟩
    obtain ⟨ao, b, cap, rfl, hcap, hcap2, hrow, hnil, hao⟩ := hO.row2
    have HAO := Lib.hid hao
    have HN := Lib.hid hnil
    have HR1 := Lib.hid hrow
    have HB1 := Lib.hid hB
    clear hO hnil hrow hB hao hr0 hw0
    obtain ⟨z, hz⟩ : ∃ z : Int, (if vldB n zs then (tld n.toNat zs n.toNat : Int) else -1) = z := ⟨_, rfl⟩
    have HZ := Lib.hid hz
    clear hz
    go_wp2_with fail
    refine (askToldI n ao b 0 cap zs _ HR1.out HN.out (by omega)).mono ?_
    rw [HZ.out]
    rintro e w2 ⟨rfl, hb2⟩
    have HB2 := Lib.hid (HB1.out.trans (hb2.mono HB1.out.size))
    have HR2 := Lib.hid (HR1.out.keep hb2 (Nat.le_refl _))
    clear hb2 HB1 HR1
    go_wp2_with fail
    refine (askToldS n ao b 0 cap zs _ HR2.out HN.out (by omega)).mono ?_
    rw [HZ.out]
    rintro e w3 ⟨rfl, hb3⟩
    have HB3 := Lib.hid (HB2.out.trans (hb3.mono HB2.out.size))
    have HR3 := Lib.hid (HR2.out.keep hb3 (Nat.le_refl _))
    clear hb3 HB2 HR2
    have hzz : (z != z) = false := by simp
    cases hv : vldB n zs with
    | false =>
      have hz1 : z = -1 := by rw [← HZ.out, hv]; rfl
      subst hz1
      clear hv
      go_wp2_with fail
      all_goals
        go_ret
        exact ⟨rfl, HB3.out⟩
    | true =>
      obtain ⟨m, rfl, hm1, hm6, hx12, hx⟩ := vld_range hv
      obtain ⟨r, hr⟩ : ∃ r, tld m zs m = r := ⟨_, rfl⟩
      have hz1 : z = (r : Int) := by rw [← HZ.out, hv, ← hr]; rfl
      subst hz1
      have HX := Lib.hid hx
      have HV := Lib.hid hv
      have HRE := Lib.hid hr
      clear hx hv hr HZ
      have htr : r ≤ m := by rw [← HRE.out]; exact Go.AskMath.tld_le m zs m
      obtain ⟨rk, hrk⟩ : ∃ rk, rnk m zs = rk := ⟨_, rfl⟩
      have hle : r ≤ rk := by rw [← HRE.out, ← hrk]; exact Go.AskMath.tld_le_rnk m zs
      have hiff : r = m ↔ rk = m := by rw [← HRE.out, ← hrk]; exact Go.AskMath.tld_all m zs
      have HRK := Lib.hid hrk
      have HIF := Lib.hid hiff
      clear hrk hiff
      go_wp2_with fail
      go_loopw [7, 8] (fun c i wr => ∃ j : Nat, j ≤ m ∧ i = .int .i64 j ∧ c = .int .i64 (tld m zs j : Nat) ∧ Row .i64 wr ao b 0 zs ∧ Below w.heap.size w wr) (fun _ i _ => m - (intOf i).toNat)
      case atStart => exact ⟨0, Nat.zero_le _, rfl, rfl, HR3.out, HB3.out⟩
      case round =>
        clear HR3 HB3
        obtain ⟨j, hj, rfl, rfl, hR, hB⟩ := hrel
        have HR3 := Lib.hid hR
        have HB3 := Lib.hid hB
        clear hR hB
        have hle2 := Go.AskMath.tld_le m zs j
        have hsucc : tld m zs (j + 1) = tld m zs j + if tel m zs j then 1 else 0 := rfl
        by_cases hjm : j < m
        · obtain ⟨t, ht⟩ : ∃ t, tld m zs j = t := ⟨_, rfl⟩
          rw [ht] at hle2 hsucc ⊢
          have HS := Lib.hid hsucc
          clear hsucc ht
          go_wp2_with fail
          refine (askTellsI m j ao b 0 cap zs _ HR3.out HN.out (by omega)).mono ?_
          rw [show (vldB m zs && (decide (0 ≤ (j : Int) ∧ (j : Int) < m) && tel (m : Int).toNat zs (j : Int).toNat)) = tel m zs j by
            rw [HV.out, decide_eq_true (show 0 ≤ (j : Int) ∧ (j : Int) < m by omega)]
            simp only [Int.toNat_natCast, Bool.true_and]]
          cases htl : tel m zs j with
          | true =>
            rintro e w5 ⟨rfl, hb5⟩
            have HB5 := Lib.hid (HB3.out.trans (hb5.mono HB3.out.size))
            have HR5 := Lib.hid (HR3.out.keep hb5 (Nat.le_refl _))
            have hs := HS.out
            rw [htl, if_pos rfl] at hs
            have HS2 := Lib.hid hs
            clear hb5 hs htl
            go_wp2_with fail
            go_roundw
            case rel => exact ⟨j + 1, by omega, by go_num, by rw [HS2.out]; go_num, HR5.out, HB5.out⟩
            case measure => simp [intOf]; omega
          | false =>
            rintro e w5 ⟨rfl, hb5⟩
            have HB5 := Lib.hid (HB3.out.trans (hb5.mono HB3.out.size))
            have HR5 := Lib.hid (HR3.out.keep hb5 (Nat.le_refl _))
            have hs := HS.out
            rw [htl, if_neg (by simp)] at hs
            have HS2 := Lib.hid hs
            clear hb5 hs htl
            go_wp2_with fail
            go_roundw
            case rel => exact ⟨j + 1, by omega, by go_num, by rw [HS2.out]; go_num, HR5.out, HB5.out⟩
            case measure => simp [intOf]; omega
        · obtain rfl : j = m := by omega
          rw [HRE.out]
          clear hsucc hle2
          go_wp2_with fail
          refine (askRankV j rk ao b 0 cap zs _ HR3.out HV.out HRK.out).mono ?_
          rintro e w5 ⟨rfl, hb5⟩
          have HB5 := Lib.hid (HB3.out.trans (hb5.mono HB3.out.size))
          have hleI : (r : Int) ≤ (rk : Int) := by omega
          clear hb5
          by_cases hrm : r = j
          · have hkm := HIF.out.1 hrm
            have h1 : (r == j) = true := by rw [beq_iff_eq]; exact hrm
            have h2 : ((r : Int) == (j : Int)) = true := by rw [beq_iff_eq]; omega
            have h3 : (rk == j) = true := by rw [beq_iff_eq]; exact hkm
            have h4 : ((rk : Int) == (j : Int)) = true := by rw [beq_iff_eq]; omega
            clear hrm hkm
            go_wp2_with fail
            go_ret
            exact ⟨rfl, HB5.out⟩
          · have hkm : rk ≠ j := fun h => hrm (HIF.out.2 h)
            have h1 : (r == j) = false := by rw [beq_eq_false_iff_ne]; exact hrm
            have h2 : ((r : Int) == (j : Int)) = false := by rw [beq_eq_false_iff_ne]; omega
            have h3 : (rk == j) = false := by rw [beq_eq_false_iff_ne]; exact hkm
            have h4 : ((rk : Int) == (j : Int)) = false := by rw [beq_eq_false_iff_ne]; omega
            clear hrm hkm
            go_wp2_with fail
            go_ret
            exact ⟨rfl, HB5.out⟩
  · go_enter Try.func10, Try.ntmps10
    go_wp2_with fail
    go_ret
    exact ⟨rfl, Below.refl _ _⟩

set_option maxRecDepth 100000 in
set_option maxHeartbeats 1000000 in
theorem walkToldMore (a0 : Option Addr) (b0 o0 c0 : Nat) (xs0 : List Int) (a1 : Option Addr) (b1 o1 c1 : Nat) (xs1 : List Int) (w : World)
    (hr0 : Row .u8 w a0 b0 o0 xs0) (hl0 : xs0.length ≤ c0 ∧ c0 ≤ 9223372036854775807) (hw0 : ∀ i, i < xs0.length → (Lit.int .u8 (xs0.getD i 0)).wf = true)
    (_hr1 : Row .u8 w a1 b1 o1 xs1) (hl1 : xs1.length ≤ c1 ∧ c1 ≤ 9223372036854775807) (_hw1 : ∀ i, i < xs1.length → (Lit.int .u8 (xs1.getD i 0)).wf = true) :
    Calls Try.prog 5 #[.slice a0 xs0.length c0, .slice a1 xs1.length c1] w fun e w' => e = .returned (.bool true) ∧ Below w.heap.size w w' := by
  obtain ⟨hl01, hl02⟩ := hl0
  obtain ⟨hl11, hl12⟩ := hl1
  by_cases h20 : xs0.length ≤ 1048576 ∧ xs1.length ≤ 1048576
  · obtain ⟨h20, h21⟩ := h20
    go_enter Try.func5, Try.ntmps5
    go_wp2_with fail
    refine (drawTold_any a0 b0 o0 c0 xs0 w hr0 hl01 hw0 hl02).mono ?_
    rintro e w1 ⟨n, v, zs, rfl, hzl, hO, hB⟩
    obtain ⟨ao, b, cap, rfl, hcap, hcap2, hrow, hnil, hao⟩ := hO.row2
    have HAO := Lib.hid hao
    have HN := Lib.hid hnil
    have HR1 := Lib.hid hrow
    have HB1 := Lib.hid hB
    clear hO hnil hrow hB hao hr0 hw0
    obtain ⟨z, hz⟩ : ∃ z : Int, (if vldB n zs then (tld n.toNat zs n.toNat : Int) else -1) = z := ⟨_, rfl⟩
    have HZ := Lib.hid hz
    clear hz
    go_wp2_with fail
    refine (askToldI n ao b 0 cap zs _ HR1.out HN.out (by omega)).mono ?_
    rw [HZ.out]
    rintro e w2 ⟨rfl, hb2⟩
    have HB2 := Lib.hid (HB1.out.trans (hb2.mono HB1.out.size))
    have HR2 := Lib.hid (HR1.out.keep hb2 (Nat.le_refl _))
    clear hb2 HB1 HR1
    go_wp2_with fail
    refine (askToldS n ao b 0 cap zs _ HR2.out HN.out (by omega)).mono ?_
    rw [HZ.out]
    rintro e w3 ⟨rfl, hb3⟩
    have HB3 := Lib.hid (HB2.out.trans (hb3.mono HB2.out.size))
    have HR3 := Lib.hid (HR2.out.keep hb3 (Nat.le_refl _))
    clear hb3 HB2 HR2
    have hzz : (z != z) = false := by simp
    cases hv : vldB n zs with
    | false =>
      have hz1 : z = -1 := by rw [← HZ.out, hv]; rfl
      subst hz1
      clear hv
      go_wp2_with fail
      all_goals
        go_ret
        exact ⟨rfl, HB3.out⟩
    | true =>
      obtain ⟨m, rfl, hm1, hm6, hx12, hx⟩ := vld_range hv
      obtain ⟨r, hr⟩ : ∃ r, tld m zs m = r := ⟨_, rfl⟩
      have hz1 : z = (r : Int) := by rw [← HZ.out, hv, ← hr]; rfl
      subst hz1
      have HX := Lib.hid hx
      have HV := Lib.hid hv
      have HRE := Lib.hid hr
      clear hx hv hr HZ
      obtain ⟨K, hK⟩ : ∃ K, xs1.length % (zs.length + 1) = K := ⟨_, rfl⟩
      have hK1 : K ≤ zs.length := by have := Nat.mod_lt xs1.length (show 0 < zs.length + 1 by omega); omega
      have hKe : (xs1.length : Int) % ((zs.length : Int) + 1) = (K : Int) := by rw [← hK]; rfl
      have HKE := Lib.hid hKe
      have hkc : (K : Int) ≤ (cap : Int) := by omega
      have hkc2 : K ≤ cap := by omega
      have htk : (zs.take K).length = K := by rw [List.length_take]; omega
      have HTK := Lib.hid htk
      clear hK hKe htk

      have hkz0 : 0 ≤ (xs1.length : Int) % ((zs.length : Int) + 1) := by rw [HKE.out]; omega
      have hkz1 : (xs1.length : Int) % ((zs.length : Int) + 1) ≤ (cap : Int) := by rw [HKE.out]; omega
      have hkn1 : xs1.length % (zs.length + 1) ≤ cap := by have h := HKE.out; have h2 : ((xs1.length % (zs.length + 1) : Nat) : Int) = (K : Int) := h; omega
      have hkn2 : xs1.length % (zs.length + 1) = K := by have h := HKE.out; have h2 : ((xs1.length % (zs.length + 1) : Nat) : Int) = (K : Int) := h; omega
      have HKN := Lib.hid hkn2
      obtain ⟨t, ht⟩ : ∃ t, tld m (zs.take K) m = t := ⟨_, rfl⟩
      have htr : t ≤ r := by rw [← ht, ← HRE.out]; exact Go.AskMath.tld_sub (fun q hq => List.mem_of_mem_take hq) m
      have HTE := Lib.hid ht
      have HVK := Lib.hid (vld_take HV.out K)
      have htI : (t : Int) ≤ (r : Int) := by omega
      have ht0 : (0 : Int) ≤ (t : Int) := by omega
      clear ht hkn2
      go_wp2_with fail
      have ct := askToldV m t ao b 0 cap (zs.take K) _ (HR3.out.take K) HN.out HVK.out HTE.out
      rw [HTK.out] at ct
      have Ct := Lib.hid ct
      clear ct
      rw [HKN.out]
      refine Ct.out.mono ?_
      rintro e w5 ⟨rfl, hb5⟩
      have HB5 := Lib.hid (HB3.out.trans (hb5.mono HB3.out.size))
      clear hb5 Ct
      go_wp2_with fail
      go_ret
      exact ⟨rfl, HB5.out⟩
  · by_cases h0 : xs0.length ≤ 1048576
    all_goals
      go_enter Try.func5, Try.ntmps5
      go_wp2_with fail
      go_ret
      exact ⟨rfl, Below.refl _ _⟩

end Go.Proofs.Ytjglikccikeejab
