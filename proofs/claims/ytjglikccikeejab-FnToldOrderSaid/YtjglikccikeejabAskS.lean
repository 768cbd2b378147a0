/-
  Contracts of the program's questions' ranks in the specification: spec.AskRank, spec.l33Tells.
-/
import Derived.Test.YtjglikccikeejabRowsS
import Derived.Test.YtjglikccikeejabValid
import Derived.Test.YtjglikccikeejabInts
namespace Go.Proofs.Ytjglikccikeejab
open Go.RowKit
open Go.AskMath (Mat rnk)

theorem small_bits (n : Nat) (xs : List Int) (hn : n ≤ 6) : Small xs.length n (fun i j => Go.AskMath.bits n (xs.getD i 0) j) := fun c R r d hc hp => by
  obtain ⟨h1, h2, h3, h4, _⟩ := Go.AskMath.bar_small (y0 := fun i => Go.AskMath.bits n (xs.getD i 0)) (fun i => Go.AskMath.bits_bin n _) (fun _ _ _ _ => rfl) hn hp hc
  exact ⟨h1, h2, h3, h4⟩

theorem vld_range {n : Int} {xs : List Int} (h : vldB n xs = true) : ∃ m : Nat, n = m ∧ 1 ≤ m ∧ m ≤ 6 ∧ xs.length ≤ 12 ∧ ∀ i, i < xs.length → 0 ≤ xs.getD i 0 ∧ xs.getD i 0 ≤ 1000 := by
  obtain ⟨h1, h2, h3, h4⟩ := vld_t h
  refine ⟨n.toNat, by omega, by omega, by omega, h3, fun i hi => ?_⟩
  have := h4 i hi
  have h6 : (2 : Int) ^ n.toNat ≤ 64 := pow_le (a := 2) (k := n.toNat) (n := 6) (by decide) (by omega)
  omega

set_option maxHeartbeats 2000000 in
theorem askRankS (n : Int) (ao : Option Addr) (b off cap : Nat) (xs : List Int) (w : World) (hr : Row .i64 w ao b off xs) (hl : xs.length ≤ 9223372036854775807) :
    Calls Try.prog 40 #[.int .i64 n, .slice ao xs.length cap] w fun e w' => e = .returned (.int .i64 (if vldB n xs then (rnk n.toNat xs : Int) else -1)) ∧ Below w.heap.size w w' := by
  have HR := Lib.hid hr
  obtain ⟨z, hz⟩ : ∃ z : Int, (if vldB n xs then (rnk n.toNat xs : Int) else -1) = z := ⟨_, rfl⟩
  rw [hz]
  have HZ := Lib.hid hz
  clear hr hz
  go_enter Try.func40, Try.ntmps40
  go_wp2_with fail
  refine (validS n ao b off cap xs w HR.out hl).mono ?_
  rintro e w1 ⟨rfl, q, rfl⟩
  cases hv : vldB n xs with
  | false =>
    have hz : z = -1 := by rw [← HZ.out, hv]; rfl
    clear hv
    go_wp2_with fail
    all_goals
      go_ret
      exact ⟨by rw [hz]; rfl, below_drewN (Below.refl _ _) q⟩
  | true =>
    obtain ⟨m, rfl, hm1, hm6, hx12, hx⟩ := vld_range hv
    have HX := Lib.hid hx
    clear hx
    go_wp2_with fail
    refine (rowsS_any m ao b off cap xs _ (show Row .i64 (w.drewN q) ao b off xs from HR.out) hm1 hm6 (by omega) HX.out).mono ?_
    rintro e w2 ⟨tb, mc, g, cp, rfl, hM, hB⟩
    have HM := Lib.hid hM
    have HB := Lib.hid hB
    clear hM hB
    go_wp2_with fail
    refine (rankS_any HM.out (small_bits m xs hm6) (by omega) (by omega)).mono ?_
    rintro e w3 ⟨r, R, d, rfl, hP, hB3⟩
    have hrk := Go.AskMath.bar_rnk (fun _ _ _ _ => rfl) hm6 hP
    subst hrk
    have HB3 := Lib.hid hB3
    clear hP hB3
    go_wp2_with fail
    go_ret
    exact ⟨by rw [← HZ.out, hv]; rfl, (below_drewN (Below.refl _ _) q).trans (HB.out.trans HB3.out)⟩
end Go.Proofs.Ytjglikccikeejab
