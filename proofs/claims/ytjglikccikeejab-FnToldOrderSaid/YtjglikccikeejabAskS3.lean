/-
  Contracts of spec.AskTold, spec.AskTells.
-/
import Derived.Test.YtjglikccikeejabAskS2
namespace Go.Proofs.Ytjglikccikeejab
open Go.RowKit
open Go.AskMath (Mat rnk tel tld)

set_option maxHeartbeats 2000000 in
theorem askToldS (n : Int) (ao : Option Addr) (b off cap : Nat) (xs : List Int) (w : World) (hr : Row .i64 w ao b off xs) (hcap : ao = none → cap = 0) (hl : xs.length ≤ 9223372036854775807) :
    Calls Try.prog 22 #[.int .i64 n, .slice ao xs.length cap] w fun e w' => e = .returned (.int .i64 (if vldB n xs then (tld n.toNat xs n.toNat : Int) else -1)) ∧ Below w.heap.size w w' := by
  have HR := Lib.hid hr
  have HC := Lib.hid hcap
  obtain ⟨z, hz⟩ : ∃ z : Int, (if vldB n xs then (tld n.toNat xs n.toNat : Int) else -1) = z := ⟨_, rfl⟩
  rw [hz]
  have HZ := Lib.hid hz
  clear hr hz hcap
  go_enter Try.func22, Try.ntmps22
  go_wp2_with fail
  refine (validS n ao b off cap xs w HR.out hl).mono ?_
  rintro e w1 ⟨rfl, q, rfl⟩
  cases hv : vldB n xs with
  | false =>
    have hz : z = -1 := by rw [← HZ.out, hv]; rfl
    clear hv
    go_wp2_with fail
    all_goals
      go_ret
      exact ⟨by rw [hz]; rfl, below_drewN (Below.refl _ _) q⟩
  | true =>
    obtain ⟨m, rfl, hm1, hm6, hx12, hx⟩ := vld_range hv
    have hz : z = (tld m xs m : Int) := by rw [← HZ.out, hv]; rfl
    have HX := Lib.hid hx
    clear hx hv HZ
    have HZ := Lib.hid hz
    clear hz
    have HB0 := Lib.hid (below_drewN (Below.refl w.heap.size w) q)
    go_wp2_with fail
    go_loopw [5, 6] (fun v si wr => ∃ k : Nat, k ≤ m ∧ v = .int .i64 (tld m xs k : Nat) ∧ si = .int .i64 k ∧ Below w.heap.size w wr) (fun _ si _ => m - (intOf si).toNat)
    case atStart => exact ⟨0, Nat.zero_le _, rfl, rfl, HB0.out⟩
    case round =>
      clear HB0
      obtain ⟨k, hk, rfl, rfl, hB⟩ := hrel
      have HB := Lib.hid hB
      clear hB
      by_cases hlt : k < m
      · have HRX := Lib.hid (HR.out.keep HB.out (Nat.le_refl _))
        have hle := Go.AskMath.tld_le m xs k
        have hsucc : tld m xs (k + 1) = tld m xs k + if tel m xs k then 1 else 0 := rfl
        obtain ⟨t, ht⟩ : ∃ t, tld m xs k = t := ⟨_, rfl⟩
        rw [ht] at hle hsucc ⊢
        have HS := Lib.hid hsucc
        clear hsucc ht
        go_wp2_with fail
        refine (tellsS m k ao b off cap xs _ HRX.out HC.out hm1 hm6 hlt (by omega) HX.out).mono ?_
        rintro e w2 ⟨rfl, hB2⟩
        have HB2 := Lib.hid (HB.out.trans (hB2.mono HB.out.size))
        clear hB2
        cases ht : tel m xs k with
        | true =>
          have hs := HS.out
          rw [ht, if_pos rfl] at hs
          have HS2 := Lib.hid hs
          clear hs ht
          go_wp2_with fail
          go_roundw
          case rel => exact ⟨k + 1, by omega, by rw [HS2.out]; go_num, by go_num, HB2.out⟩
          case measure => simp [intOf]; omega
        | false =>
          have hs := HS.out
          rw [ht, if_neg (by simp)] at hs
          have HS2 := Lib.hid hs
          clear hs ht
          go_wp2_with fail
          go_roundw
          case rel => exact ⟨k + 1, by omega, by rw [HS2.out]; go_num, by go_num, HB2.out⟩
          case measure => simp [intOf]; omega
      · obtain rfl : k = m := by omega
        have hle := Go.AskMath.tld_le k xs k
        go_wp2_with fail
        go_ret
        exact ⟨by rw [HZ.out]; rfl, HB.out⟩

set_option maxHeartbeats 2000000 in
theorem askTellsS (n i : Int) (ao : Option Addr) (b off cap : Nat) (xs : List Int) (w : World) (hr : Row .i64 w ao b off xs) (hcap : ao = none → cap = 0) (hl : xs.length ≤ 9223372036854775807) :
    Calls Try.prog 17 #[.int .i64 n, .slice ao xs.length cap, .int .i64 i] w fun e w' => e = .returned (.bool (vldB n xs && (decide (0 ≤ i ∧ i < n) && tel n.toNat xs i.toNat))) ∧ Below w.heap.size w w' := by
  have HR := Lib.hid hr
  have HC := Lib.hid hcap
  obtain ⟨z, hz⟩ : ∃ z : Bool, (vldB n xs && (decide (0 ≤ i ∧ i < n) && tel n.toNat xs i.toNat)) = z := ⟨_, rfl⟩
  rw [hz]
  have HZ := Lib.hid hz
  clear hr hz hcap
  go_enter Try.func17, Try.ntmps17
  go_wp2_with fail
  refine (validS n ao b off cap xs w HR.out hl).mono ?_
  rintro e w1 ⟨rfl, q, rfl⟩
  cases hv : vldB n xs with
  | false =>
    have hz : z = false := by rw [← HZ.out, hv]; rfl
    clear hv
    go_wp2_with fail
    all_goals
      go_ret
      exact ⟨by rw [hz]; rfl, below_drewN (Below.refl _ _) q⟩
  | true =>
    obtain ⟨m, rfl, hm1, hm6, hx12, hx⟩ := vld_range hv
    have hwm : IntKind.i64.wrap ((m : Int) - 1) = (m : Int) - 1 := IntWalk.i64_in _ ⟨by omega, by omega⟩
    have HX := Lib.hid hx
    have HV := Lib.hid hv
    clear hx hv
    have HB0 := Lib.hid (below_drewN (Below.refl w.heap.size w) q)
    go_wp2_with fail
    by_cases hin : 0 ≤ i ∧ i < m
    · refine (in_yes i 0 (m - 1) _ hin.1 (by omega)).mono ?_
      rintro e w2 ⟨rfl, rfl⟩
      obtain ⟨j, rfl⟩ := Int.eq_ofNat_of_zero_le hin.1
      have hj : j < m := by omega
      have HZ2 := Lib.hid (show z = tel m xs j by rw [← HZ.out, HV.out, decide_eq_true hin]; rfl)
      have HRX := Lib.hid (HR.out.keep HB0.out (Nat.le_refl _))
      go_wp2_with fail
      refine (tellsS m j ao b off cap xs _ HRX.out HC.out hm1 hm6 hj (by omega) HX.out).mono ?_
      rintro e w2 ⟨rfl, hB2⟩
      have HB2 := Lib.hid (HB0.out.trans hB2)
      clear hB2
      go_wp2_with fail
      all_goals
        go_ret
        exact ⟨by rw [HZ2.out]; rfl, HB2.out⟩
    · refine (in_no i 0 (m - 1) _ (by omega)).mono ?_
      rintro e w2 ⟨rfl, rfl⟩
      have hz : z = false := by rw [← HZ.out, decide_eq_false hin]; simp
      go_wp2_with fail
      all_goals
        go_ret
        exact ⟨by rw [hz]; rfl, HB0.out⟩
end Go.Proofs.Ytjglikccikeejab
