/-
  Contract: spec.AskSafe.
-/
import Derived.Test.YtjglikccikeejabAskI
import Derived.Test.YtjglikccikeejabAskS3
namespace Go.Proofs.Ytjglikccikeejab
open Go.RowKit
open Go.AskMath (Mat rnk tel tld)

set_option maxHeartbeats 2000000 in
theorem askSafeS (n q : Int) (ao : Option Addr) (b off cap : Nat) (xs : List Int) (w : World) (hr : Row .i64 w ao b off xs) (hcap : ao = none → cap = 0) (hl : xs.length ≤ 10000000) :
    Calls Try.prog 29 #[.int .i64 n, .slice ao xs.length cap, .int .i64 q] w fun e w' => e = .returned (.bool (safeB n xs q)) ∧ Below w.heap.size w w' := by
  have HR := Lib.hid hr
  have HC := Lib.hid hcap
  obtain ⟨z, hz⟩ : ∃ z : Bool, safeB n xs q = z := ⟨_, rfl⟩
  rw [hz]
  have HZ := Lib.hid hz
  have HO0 := Lib.hid (Own.lit (w := w) (base := w.heap.size) [] (Nat.le_refl _) (by simp))
  have HRA := Lib.hid (HR.out.keep ((Below.refl w.heap.size w).alloc (Nat.le_refl _) (.cells #[] 3)) (Nat.le_refl _))
  have HB0 := Lib.hid ((Below.refl w.heap.size w).alloc (Nat.le_refl _) (.cells #[] 3))
  clear hr hz hcap
  go_enter Try.func29, Try.ntmps29
  go_wp2_with (at_builtin; refine wpList_appL rfl (.tmp 8) (.tmp 9) rfl w.heap.size _ [] rfl HO0.out ao b off cap xs rfl HC.out HRA.out ?k3 ?k4 ?k5 ?_)
  case k3 => simp
  case k4 => omega
  case k5 => simp
  intro v1 w1 hO1 hB1 _
  have HO1 := Lib.hid hO1
  have HB1 := Lib.hid (HB0.out.trans hB1)
  clear hO1 hB1 HO0 HRA HB0
  have hs1 := HB1.out.size
  go_wp2_with (at_builtin; refine wpList_app1 rfl (.tmp 10) (.tmp 12) rfl w.heap.size _ xs rfl HO1.out q rfl rfl ?m1 ?m2 ?_)
  case m1 => omega
  case m2 => omega
  intro v2 w2 hO2 hB2 _
  have HB3 := Lib.hid (HB1.out.trans hB2)
  clear hB2 HO1 HB1 hs1
  have hyl : (xs ++ [q]).length ≤ 9223372036854775807 := by simp; omega
  unfold safeB at HZ
  obtain ⟨ys, hys⟩ : ∃ ys, xs ++ [q] = ys := ⟨_, rfl⟩
  rw [hys] at hO2 hyl HZ
  obtain ⟨ao2, b2, cap2, rfl, _, _, hr2, _, hc2⟩ := hO2.row
  have HR2 := Lib.hid hr2
  have HC2 := Lib.hid hc2
  clear hO2 hr2 hys hc2
  go_wp2_with fail
  refine (askToldS n ao2 b2 0 cap2 ys _ HR2.out HC2.out hyl).mono ?_
  rintro e w2 ⟨rfl, hB2⟩
  have HB2 := Lib.hid (HB3.out.trans (hB2.mono HB3.out.size))
  obtain ⟨t, ht⟩ : ∃ t : Int, (if vldB n ys then (tld n.toNat ys n.toNat : Int) else -1) = t := ⟨_, rfl⟩
  rw [ht] at HZ
  rw [ht]
  clear hB2 ht
  go_wp2_with fail
  go_ret
  exact ⟨by rw [← HZ.out]; rfl, HB2.out⟩

theorem safe_t {n q : Int} {xs : List Int} (h : safeB n xs q = true) : vldB n (xs ++ [q]) = true ∧ tld n.toNat (xs ++ [q]) n.toNat = 0 := by
  unfold safeB at h
  rw [beq_iff_eq] at h
  cases hv : vldB n (xs ++ [q]) with
  | false => rw [hv, if_neg (by simp)] at h; omega
  | true => rw [hv, if_pos rfl] at h; exact ⟨rfl, by omega⟩

end Go.Proofs.Ytjglikccikeejab
