/-
  Contracts: spec.AskNext, impl.AskNext.
-/
import Derived.Test.YtjglikccikeejabAskSafe
import Derived.Test.YtjglikccikeejabNext
namespace Go.Proofs.Ytjglikccikeejab
open Go.RowKit
open Go.AskMath (Mat rnk tel tld)

theorem good_of (n : Int) (xs : List Int) (q : Nat) : goodB n xs q = (safeB n xs q && decide (rnk n.toNat xs < rnk n.toNat (xs ++ [(q : Int)]))) := rfl

theorem nxt_bad {n : Int} {xs : List Int} (h : vldB n xs = false) : nxt n xs = 0 := by
  refine Classical.byContradiction fun h0 => ?_
  have := vld_front (good_t (nxt_spec h0).2.2.1).1
  rw [h] at this
  cases this

/-- The search has come to q, whose outcome is known. -/
theorem nxtF_go {n : Int} {xs : List Int} {q m z : Nat} (h : q < m) (hz : nxtF n xs (m - q) q = z) : (goodB n xs q = true → z = q) ∧ (goodB n xs q = false → nxtF n xs (m - (q + 1)) (q + 1) = z) := by
  rw [nxtF_step h] at hz
  constructor
  · intro hg; rw [if_pos hg] at hz; exact hz.symm
  · intro hg; rw [hg] at hz; exact hz

theorem pow_nat (m : Nat) : ((2 ^ m : Nat) : Int) = 2 ^ m := by simp

set_option maxHeartbeats 4000000 in
theorem askNextI (n : Int) (ao : Option Addr) (b off cap : Nat) (xs : List Int) (w : World) (hr : Row .i64 w ao b off xs) (hcap : ao = none → cap = 0) (hl : xs.length ≤ 9223372036854775807) :
    Calls Try.prog 25 #[.int .i64 n, .slice ao xs.length cap] w fun e w' => e = .returned (.tuple #[.int .i64 (nxt n xs : Nat), .bool (nxt n xs != 0)]) ∧ Below w.heap.size w w' := by
  have HR := Lib.hid hr
  have HC := Lib.hid hcap
  obtain ⟨z, hz⟩ : ∃ z : Nat, nxt n xs = z := ⟨_, rfl⟩
  rw [hz]
  have HZ := Lib.hid hz
  clear hr hz hcap
  go_enter Try.func25, Try.ntmps25
  go_wp2_with fail
  refine (validI n ao b off cap xs w HR.out hl).mono ?_
  rintro e w1 ⟨rfl, rfl⟩
  cases hv : vldB n xs with
  | false =>
    have hz : z = 0 := by rw [← HZ.out]; exact nxt_bad hv
    subst hz
    clear hv
    go_wp2_with fail
    all_goals
      go_ret2
      exact ⟨rfl, Below.refl _ _⟩
  | true =>
    obtain ⟨m, rfl, hm1, hm6, hx12, hx⟩ := vld_range hv
    have HX := Lib.hid hx
    have HV := Lib.hid hv
    clear hx hv
    by_cases h12 : xs.length = 12
    · have hz : z = 0 := by rw [← HZ.out]; exact nxt_full (by omega)
      subst hz
      have h12b : (xs.length == 12) = true := by rw [beq_iff_eq]; exact h12
      have h12c : ((xs.length : Int) == 12) = true := by rw [beq_iff_eq]; omega
      have H12 := Lib.hid h12
      clear h12
      go_wp2_with fail
      all_goals
        go_ret2
        exact ⟨rfl, Below.refl _ _⟩
    · have h12b : (xs.length == 12) = false := by rw [beq_eq_false_iff_ne]; exact h12
      have h12c : ((xs.length : Int) == 12) = false := by rw [beq_eq_false_iff_ne]; omega
      have hpw : IntKind.i64.wrap ((2 : Int) ^ m) = ((2 ^ m : Nat) : Int) := by
        rw [pow_nat]
        have h0 : (0 : Int) < 2 ^ m := Int.pow_pos (by omega)
        exact IntWalk.i64_in _ ⟨by omega, two_le (by omega)⟩
      have hM64 : 2 ^ m ≤ 64 := Nat.pow_le_pow_right (by decide) hm6
      have hM1 : 1 ≤ 2 ^ m := Nat.one_le_two_pow
      have HZ2 := Lib.hid (show nxtF m xs (2 ^ m - 1) 1 = z from HZ.out)
      obtain ⟨M, hM⟩ : ∃ M : Nat, 2 ^ m = M := ⟨_, rfl⟩
      rw [hM] at hpw hM64 hM1 HZ2
      have HM := Lib.hid hM
      clear hM h12
      have HPW := Lib.hid hpw
      clear hpw
      go_wp2_with fail
      go_loopw [6] (fun si wr => ∃ q : Nat, 1 ≤ q ∧ q ≤ M ∧ si = .int .i64 q ∧ Hid (nxtF m xs (M - q) q = z) ∧ Below w.heap.size w wr) (fun si _ => M - (intOf si).toNat)
      case atStart => exact ⟨1, Nat.le_refl _, hM1, rfl, HZ2, Below.refl _ _⟩
      case round =>
        clear HZ2
        obtain ⟨q, hq1, hq2, rfl, HQ, hB⟩ := hrel
        have HB := Lib.hid hB
        clear hB
        have hpw := HPW.out
        by_cases hlt : q < M
        · have HRX := Lib.hid (HR.out.keep HB.out (Nat.le_refl _))
          have HGO := Lib.hid (nxtF_go hlt HQ.out)
          have hqM : (q : Int) < (M : Int) := by omega
          go_wp2_with fail
          refine (askSafeI m q ao b off cap xs _ HRX.out HC.out (by omega)).mono ?_
          rintro e w2 ⟨rfl, hB2⟩
          have HB2 := Lib.hid (HB.out.trans (hB2.mono HB.out.size))
          clear hB2
          have hgd := good_of m xs q
          cases hs : safeB m xs q with
          | false =>
            rw [hs, Bool.false_and] at hgd
            have HN := Lib.hid (HGO.out.2 hgd)
            clear hgd hs
            go_wp2_with fail
            go_roundw
            case rel => exact ⟨q + 1, by omega, by omega, by go_num, HN, HB2.out⟩
            case measure => simp [intOf]; omega
          | true =>
            rw [hs, Bool.true_and] at hgd
            have hvy := (safe_t hs).1
            obtain ⟨_, he, hy1, hy6, hy12, hyx⟩ := vld_range hvy
            have HYX := Lib.hid hyx
            have HGD := Lib.hid hgd
            have HRY := Lib.hid (HR.out.keep HB2.out (Nat.le_refl _))
            clear hgd hs hvy he hyx hpw
            go_wp2_with fail
            refine (concat1 ao b off cap xs q _ HRY.out HC.out (by omega)).mono ?_
            rintro e w3 ⟨v, rfl, hO, hB3⟩
            obtain ⟨ys, hys⟩ : ∃ ys, xs ++ [(q : Int)] = ys := ⟨_, rfl⟩
            rw [hys] at hO hy12 HYX HGD
            obtain ⟨ao2, b2, cap2, rfl, _, _, hr2, _, hc2⟩ := hO.row
            have HR2 := Lib.hid hr2
            have HB3 := Lib.hid (HB2.out.trans (hB3.mono HB2.out.size))
            clear hO hr2 hB3 hys hc2
            go_wp2_with fail
            refine (rankI m ao2 b2 0 cap2 ys _ HR2.out hm1 hm6 (by omega) HYX.out).mono ?_
            rintro e w4 ⟨rfl, hB4⟩
            have HB4 := Lib.hid (HB3.out.trans (hB4.mono HB3.out.size))
            have HRZ := Lib.hid (HR.out.keep HB4.out (Nat.le_refl _))
            clear hB4
            go_wp2_with fail
            refine (rankI m ao b off cap xs _ HRZ.out hm1 hm6 (by omega) HX.out).mono ?_
            rintro e w5 ⟨rfl, hB5⟩
            have HB5 := Lib.hid (HB4.out.trans (hB5.mono HB4.out.size))
            clear hB5
            obtain ⟨r1, hr1⟩ : ∃ r1, rnk m xs = r1 := ⟨_, rfl⟩
            obtain ⟨r2, hr2⟩ : ∃ r2, rnk m ys = r2 := ⟨_, rfl⟩
            have HGD := Lib.hid (show goodB m xs q = decide (rnk m xs < rnk m ys) from HGD.out)
            rw [hr1, hr2] at HGD
            rw [hr1, hr2]
            clear hr1 hr2
            by_cases hrr : r1 < r2
            · have hg := HGD.out
              rw [decide_eq_true hrr] at hg
              have HQZ := Lib.hid (HGO.out.1 hg)
              have hzz : (q != 0) = true := by rw [bne_iff_ne]; omega
              have HZZ := Lib.hid hzz
              clear hg hzz
              go_wp2_with fail
              go_ret2
              exact ⟨by rw [HQZ.out, HZZ.out]; rfl, HB5.out⟩
            · have hg := HGD.out
              rw [decide_eq_false hrr] at hg
              have HN := Lib.hid (HGO.out.2 hg)
              clear hg
              go_wp2_with fail
              go_roundw
              case rel => exact ⟨q + 1, by omega, by omega, by go_num, HN, HB5.out⟩
              case measure => simp [intOf]; omega
        · obtain rfl : q = M := by omega
          have hz : z = 0 := by rw [← HQ.out, Nat.sub_self]; rfl
          subst hz
          go_wp2_with fail
          go_ret2
          exact ⟨rfl, HB.out⟩

set_option maxHeartbeats 4000000 in
theorem askNextS (n : Int) (ao : Option Addr) (b off cap : Nat) (xs : List Int) (w : World) (hr : Row .i64 w ao b off xs) (hcap : ao = none → cap = 0) (hl : xs.length ≤ 9223372036854775807) :
    Calls Try.prog 23 #[.int .i64 n, .slice ao xs.length cap] w fun e w' => e = .returned (.tuple #[.int .i64 (nxt n xs : Nat), .bool (nxt n xs != 0)]) ∧ Below w.heap.size w w' := by
  have HR := Lib.hid hr
  have HC := Lib.hid hcap
  obtain ⟨z, hz⟩ : ∃ z : Nat, nxt n xs = z := ⟨_, rfl⟩
  rw [hz]
  have HZ := Lib.hid hz
  clear hr hz hcap
  go_enter Try.func23, Try.ntmps23
  go_wp2_with fail
  refine (validS n ao b off cap xs w HR.out hl).mono ?_
  rintro e w1 ⟨rfl, q0, rfl⟩
  have HBq := Lib.hid (below_drewN (Below.refl w.heap.size w) q0)
  cases hv : vldB n xs with
  | false =>
    have hz : z = 0 := by rw [← HZ.out]; exact nxt_bad hv
    subst hz
    clear hv
    go_wp2_with fail
    all_goals
      go_ret2
      exact ⟨rfl, HBq.out⟩
  | true =>
    obtain ⟨m, rfl, hm1, hm6, hx12, hx⟩ := vld_range hv
    have HX := Lib.hid hx
    have HV := Lib.hid hv
    clear hx hv
    have hM64 : 2 ^ m ≤ 64 := Nat.pow_le_pow_right (by decide) hm6
    have hM1 : 1 ≤ 2 ^ m := Nat.one_le_two_pow
    have HZ2 := Lib.hid (show nxtF m xs (2 ^ m - 1) 1 = z from HZ.out)
    have pw := fun W => power2_any (m : Int) W (by omega) (by omega)
    simp only [Int.toNat_natCast] at pw
    rw [← pow_nat m] at pw
    obtain ⟨M, hM⟩ : ∃ M : Nat, 2 ^ m = M := ⟨_, rfl⟩
    rw [hM] at pw hM64 hM1 HZ2
    have HPW := Lib.hid pw
    clear hM pw
    go_wp2_with fail
    go_loopw [6] (fun si wr => ∃ q : Nat, 1 ≤ q ∧ q ≤ M ∧ si = .int .i64 q ∧ Hid (nxtF m xs (M - q) q = z) ∧ Below w.heap.size w wr) (fun si _ => M - (intOf si).toNat)
    case atStart => exact ⟨1, Nat.le_refl _, hM1, rfl, HZ2, HBq.out⟩
    case round =>
      clear HZ2 HBq
      obtain ⟨q, hq1, hq2, rfl, HQ, hB⟩ := hrel
      have HB := Lib.hid hB
      clear hB
      go_wp2_with fail
      refine (HPW.out _).mono ?_
      rintro e w2 ⟨rfl, rfl⟩
      by_cases hlt : q < M
      · have HGO := Lib.hid (nxtF_go hlt HQ.out)
        have hqM : (q : Int) < (M : Int) := by omega
        have hs0 := HB.out.size
        have HO0 := Lib.hid (Own.lit (w := wr) (base := wr.heap.size) [] (Nat.le_refl _) (by simp))
        have HB0 := Lib.hid ((Below.refl wr.heap.size wr).alloc (Nat.le_refl _) (.cells #[] 3))
        have HRA := Lib.hid (HR.out.keep (HB.out.alloc hs0 (.cells #[] 3)) (Nat.le_refl _))
        go_wp2_with (at_builtin; refine wpList_appL rfl (.tmp 18) (.tmp 19) rfl wr.heap.size _ [] rfl HO0.out ao b off cap xs rfl HC.out HRA.out ?k3 ?k4 ?k5 ?_)
        case k3 => simp
        case k4 => omega
        case k5 => simp
        intro v1 w1 hO1 hB1 _
        have HO1 := Lib.hid hO1
        have HB1 := Lib.hid (HB0.out.trans hB1)
        clear hO1 hB1 HO0 HRA HB0
        have hs1 := HB1.out.size
        go_wp2_with (at_builtin; refine wpList_app1 rfl (.tmp 20) (.tmp 22) rfl wr.heap.size _ xs rfl HO1.out q rfl rfl ?m1 ?m2 ?_)
        case m1 => omega
        case m2 => omega
        intro v2 w2 hO2 hB2 _
        have HB3 := Lib.hid (HB.out.trans ((HB1.out.trans hB2).mono hs0))
        clear hB2 HO1 HB1 hs1
        have HG2 := Lib.hid (fun (h : safeB m xs q = true) => vld_range (safe_t h).1)
        have HGD := Lib.hid (good_of m xs q)
        obtain ⟨ys, hys⟩ : ∃ ys, xs ++ [(q : Int)] = ys := ⟨_, rfl⟩
        have hyl : ys.length ≤ 9223372036854775807 := by rw [← hys]; simp; omega
        have HVY := Lib.hid (fun (h : safeB m xs q = true) => (safe_t h).1)
        rw [hys] at hO2 HG2 HVY
        obtain ⟨ao2, b2, cap2, rfl, _, _, hr2, _, hc2⟩ := hO2.row
        have HR2 := Lib.hid hr2
        have HRX := Lib.hid (HR.out.keep HB3.out (Nat.le_refl _))
        have HYS := Lib.hid hys
        clear hO2 hr2 hys hc2
        go_wp2_with fail
        refine (askSafeS m q ao b off cap xs _ HRX.out HC.out (by omega)).mono ?_
        rintro e w4 ⟨rfl, hB4⟩
        have HRY := Lib.hid (HR2.out.keep hB4 (Nat.le_refl _))
        have HB4 := Lib.hid (HB3.out.trans (hB4.mono HB3.out.size))
        clear hB4
        cases hs : safeB m xs q with
        | false =>
          have hgd := HGD.out
          rw [hs, Bool.false_and] at hgd
          have HN := Lib.hid (HGO.out.2 hgd)
          clear hgd hs
          go_wp2_with fail
          go_roundw
          case rel => exact ⟨q + 1, by omega, by omega, by go_num, HN, HB4.out⟩
          case measure => simp [intOf]; omega
        | true =>
          have hgd := HGD.out
          rw [hs, Bool.true_and] at hgd
          have hvy := HVY.out hs
          have HGD2 := Lib.hid hgd
          clear hgd hs
          rw [HYS.out] at HGD2
          go_wp2_with fail
          have ct := askRankS (m : Int) ao2 b2 0 cap2 ys _ HRY.out hyl
          rw [hvy, if_pos rfl] at ct
          have Ct := Lib.hid ct
          clear ct hvy
          refine Ct.out.mono ?_
          rintro e w5 ⟨rfl, hB5⟩
          clear Ct
          have HB5 := Lib.hid (HB4.out.trans (hB5.mono HB4.out.size))
          have HRZ := Lib.hid (HR.out.keep HB5.out (Nat.le_refl _))
          clear hB5
          go_wp2_with fail
          have ct := askRankS (m : Int) ao b off cap xs _ HRZ.out (by omega)
          rw [HV.out, if_pos rfl] at ct
          have Ct := Lib.hid ct
          clear ct
          refine Ct.out.mono ?_
          rintro e w6 ⟨rfl, hB6⟩
          clear Ct
          have HB6 := Lib.hid (HB5.out.trans (hB6.mono HB5.out.size))
          clear hB6
          have HGD2 := Lib.hid (show goodB m xs q = decide (rnk m xs < rnk m ys) from HGD2.out)
          simp only [Int.toNat_natCast]
          obtain ⟨r1, hr1⟩ : ∃ r1, rnk m xs = r1 := ⟨_, rfl⟩
          obtain ⟨r2, hr2⟩ : ∃ r2, rnk m ys = r2 := ⟨_, rfl⟩
          rw [hr1, hr2] at HGD2
          rw [hr1, hr2]
          clear hr1 hr2
          by_cases hrr : r1 < r2
          · have hg := HGD2.out
            rw [decide_eq_true hrr] at hg
            have HQZ := Lib.hid (HGO.out.1 hg)
            have hzz : (q != 0) = true := by rw [bne_iff_ne]; omega
            have HZZ := Lib.hid hzz
            clear hg hzz
            go_wp2_with fail
            go_ret2
            exact ⟨by rw [HQZ.out, HZZ.out]; rfl, HB6.out⟩
          · have hg := HGD2.out
            rw [decide_eq_false hrr] at hg
            have HN := Lib.hid (HGO.out.2 hg)
            clear hg
            go_wp2_with fail
            go_roundw
            case rel => exact ⟨q + 1, by omega, by omega, by go_num, HN, HB6.out⟩
            case measure => simp [intOf]; omega
      · obtain rfl : q = M := by omega
        have hz : z = 0 := by rw [← HQ.out, Nat.sub_self]; rfl
        subst hz
        go_wp2_with fail
        go_ret2
        exact ⟨rfl, HB.out⟩
end Go.Proofs.Ytjglikccikeejab
