/-
  The walks of laws of the form: the program's function returns what the reference's returns: AskRank, AskTells, AskTold, AskSafe.
-/
import Derived.Test.YtjglikccikeejaaAskSafe
import Derived.Test.YtjglikccikeejaaInts
namespace Go.Proofs.Ytjglikccikeejaa
open Go.RowKit
open Go.AskMath (rnk tel tld)

set_option maxHeartbeats 1000000 in
theorem walkExactAskRank (n : Int) (ao : Option Addr) (b off cap : Nat) (xs : List Int) (w : World) (_hn : (Lit.int .i64 n).wf = true) (hr : Row .i64 w ao b off xs) (hcl : xs.length ≤ cap ∧ cap ≤ 9223372036854775807) (_hw : ∀ i, i < xs.length → (Lit.int .i64 (xs.getD i 0)).wf = true) :
    Calls Try.prog 4 #[.int .i64 n, .slice ao xs.length cap] w fun e w' => e = .returned (.bool true) ∧ Below w.heap.size w w' := by
  have hl : xs.length ≤ 9223372036854775807 := by omega
  by_cases h20 : xs.length ≤ 1048576
  · have HR := Lib.hid hr
    obtain ⟨z, hz⟩ : ∃ z : Int, (if vldB n xs then (rnk n.toNat xs : Int) else -1) = z := ⟨_, rfl⟩
    have HZ := Lib.hid hz
    clear hr hz
    go_enter Try.func4, Try.ntmps4
    go_wp2_with fail
    refine (toInts_any ao b off cap xs w HR.out (by omega)).mono ?_
    rintro e w1 ⟨rfl, hb1, hi1, _⟩
    have HB1 := Lib.hid hb1
    have HI1 := Lib.hid (Row.of_rowIs hi1)
    clear hb1 hi1
    go_wp2_with fail
    refine (askRankS n _ _ 0 xs.length xs _ HI1.out hl).mono ?_
    rw [HZ.out]
    rintro e w2 ⟨rfl, hb2⟩
    have HB2 := Lib.hid (HB1.out.trans (hb2.mono HB1.out.size))
    have HR2 := Lib.hid (HR.out.keep HB2.out (Nat.le_refl _))
    clear hb2
    go_wp2_with fail
    refine (toInts_any ao b off cap xs _ HR2.out (by omega)).mono ?_
    rintro e w3 ⟨rfl, hb3, hi3, _⟩
    have HB3 := Lib.hid (HB2.out.trans (hb3.mono HB2.out.size))
    have HI3 := Lib.hid (Row.of_rowIs hi3)
    clear hb3 hi3
    go_wp2_with fail
    refine (askRankI n _ _ 0 xs.length xs _ HI3.out hl).mono ?_
    rw [HZ.out]
    rintro e w4 ⟨rfl, hb4⟩
    have HB4 := Lib.hid (HB3.out.trans (hb4.mono HB3.out.size))
    have HI4 := Lib.hid (HI3.out.keep hb4 (Nat.le_refl _))
    have HR4 := Lib.hid (HR.out.keep HB4.out (Nat.le_refl _))
    clear hb4
    have hzz : (z != z) = false := by simp
    go_wp2_with fail
    refine (toInts_any ao b off cap xs _ HR4.out (by omega)).mono ?_
    rintro e w5 ⟨rfl, hb5, hi5, _⟩
    have HB5 := Lib.hid (HB4.out.trans (hb5.mono HB4.out.size))
    have HI5 := Lib.hid (Row.of_rowIs hi5)
    have HJ5 := Lib.hid (HI4.out.keep hb5 (Nat.le_refl _))
    clear hb5 hi5
    go_wp2_with fail
    refine (eqInts_yes _ _ _ 0 xs.length _ 0 xs.length xs _ HJ5.out HI5.out hl).mono ?_
    rintro e w6 ⟨rfl, q, rfl⟩
    go_wp2_with fail
    go_ret
    exact ⟨rfl, below_drewN HB5.out q⟩
  · go_enter Try.func4, Try.ntmps4
    go_wp2_with fail
    go_ret
    exact ⟨rfl, Below.refl _ _⟩

set_option maxHeartbeats 1000000 in
theorem walkExactAskTells (n : Int) (ao : Option Addr) (b off cap : Nat) (xs : List Int) (i : Int) (w : World) (_hn : (Lit.int .i64 n).wf = true) (hr : Row .i64 w ao b off xs) (hcl : xs.length ≤ cap ∧ cap ≤ 9223372036854775807) (_hw : ∀ i, i < xs.length → (Lit.int .i64 (xs.getD i 0)).wf = true) (_hi : (Lit.int .i64 i).wf = true) :
    Calls Try.prog 10 #[.int .i64 n, .slice ao xs.length cap, .int .i64 i] w fun e w' => e = .returned (.bool true) ∧ Below w.heap.size w w' := by
  have hl : xs.length ≤ 9223372036854775807 := by omega
  by_cases h20 : xs.length ≤ 1048576
  · have HR := Lib.hid hr
    obtain ⟨z, hz⟩ : ∃ z : Bool, (vldB n xs && (decide (0 ≤ i ∧ i < n) && tel n.toNat xs i.toNat)) = z := ⟨_, rfl⟩
    have HZ := Lib.hid hz
    clear hr hz
    go_enter Try.func10, Try.ntmps10
    go_wp2_with fail
    refine (toInts_any ao b off cap xs w HR.out (by omega)).mono ?_
    rintro e w1 ⟨rfl, hb1, hi1, _⟩
    have HB1 := Lib.hid hb1
    have HI1 := Lib.hid (Row.of_rowIs hi1)
    clear hb1 hi1
    go_wp2_with fail
    refine (askTellsS n i _ _ 0 xs.length xs _ HI1.out (fun h => by cases h) hl).mono ?_
    rw [HZ.out]
    rintro e w2 ⟨rfl, hb2⟩
    have HB2 := Lib.hid (HB1.out.trans (hb2.mono HB1.out.size))
    have HR2 := Lib.hid (HR.out.keep HB2.out (Nat.le_refl _))
    clear hb2
    go_wp2_with fail
    refine (toInts_any ao b off cap xs _ HR2.out (by omega)).mono ?_
    rintro e w3 ⟨rfl, hb3, hi3, _⟩
    have HB3 := Lib.hid (HB2.out.trans (hb3.mono HB2.out.size))
    have HI3 := Lib.hid (Row.of_rowIs hi3)
    clear hb3 hi3
    go_wp2_with fail
    refine (askTellsI n i _ _ 0 xs.length xs _ HI3.out (fun h => by cases h) hl).mono ?_
    rw [HZ.out]
    rintro e w4 ⟨rfl, hb4⟩
    have HB4 := Lib.hid (HB3.out.trans (hb4.mono HB3.out.size))
    have HI4 := Lib.hid (HI3.out.keep hb4 (Nat.le_refl _))
    have HR4 := Lib.hid (HR.out.keep HB4.out (Nat.le_refl _))
    clear hb4
    have hzz : (z != z) = false := by simp
    go_wp2_with fail
    refine (toInts_any ao b off cap xs _ HR4.out (by omega)).mono ?_
    rintro e w5 ⟨rfl, hb5, hi5, _⟩
    have HB5 := Lib.hid (HB4.out.trans (hb5.mono HB4.out.size))
    have HI5 := Lib.hid (Row.of_rowIs hi5)
    have HJ5 := Lib.hid (HI4.out.keep hb5 (Nat.le_refl _))
    clear hb5 hi5
    go_wp2_with fail
    refine (eqInts_yes _ _ _ 0 xs.length _ 0 xs.length xs _ HJ5.out HI5.out hl).mono ?_
    rintro e w6 ⟨rfl, q, rfl⟩
    go_wp2_with fail
    go_ret
    exact ⟨rfl, below_drewN HB5.out q⟩
  · go_enter Try.func10, Try.ntmps10
    go_wp2_with fail
    go_ret
    exact ⟨rfl, Below.refl _ _⟩

set_option maxHeartbeats 1000000 in
theorem walkExactAskTold (n : Int) (ao : Option Addr) (b off cap : Nat) (xs : List Int) (w : World) (_hn : (Lit.int .i64 n).wf = true) (hr : Row .i64 w ao b off xs) (hcl : xs.length ≤ cap ∧ cap ≤ 9223372036854775807) (_hw : ∀ i, i < xs.length → (Lit.int .i64 (xs.getD i 0)).wf = true) :
    Calls Try.prog 11 #[.int .i64 n, .slice ao xs.length cap] w fun e w' => e = .returned (.bool true) ∧ Below w.heap.size w w' := by
  have hl : xs.length ≤ 9223372036854775807 := by omega
  by_cases h20 : xs.length ≤ 1048576
  · have HR := Lib.hid hr
    obtain ⟨z, hz⟩ : ∃ z : Int, (if vldB n xs then (tld n.toNat xs n.toNat : Int) else -1) = z := ⟨_, rfl⟩
    have HZ := Lib.hid hz
    clear hr hz
    go_enter Try.func11, Try.ntmps11
    go_wp2_with fail
    refine (toInts_any ao b off cap xs w HR.out (by omega)).mono ?_
    rintro e w1 ⟨rfl, hb1, hi1, _⟩
    have HB1 := Lib.hid hb1
    have HI1 := Lib.hid (Row.of_rowIs hi1)
    clear hb1 hi1
    go_wp2_with fail
    refine (askToldS n _ _ 0 xs.length xs _ HI1.out (fun h => by cases h) hl).mono ?_
    rw [HZ.out]
    rintro e w2 ⟨rfl, hb2⟩
    have HB2 := Lib.hid (HB1.out.trans (hb2.mono HB1.out.size))
    have HR2 := Lib.hid (HR.out.keep HB2.out (Nat.le_refl _))
    clear hb2
    go_wp2_with fail
    refine (toInts_any ao b off cap xs _ HR2.out (by omega)).mono ?_
    rintro e w3 ⟨rfl, hb3, hi3, _⟩
    have HB3 := Lib.hid (HB2.out.trans (hb3.mono HB2.out.size))
    have HI3 := Lib.hid (Row.of_rowIs hi3)
    clear hb3 hi3
    go_wp2_with fail
    refine (askToldI n _ _ 0 xs.length xs _ HI3.out (fun h => by cases h) hl).mono ?_
    rw [HZ.out]
    rintro e w4 ⟨rfl, hb4⟩
    have HB4 := Lib.hid (HB3.out.trans (hb4.mono HB3.out.size))
    have HI4 := Lib.hid (HI3.out.keep hb4 (Nat.le_refl _))
    have HR4 := Lib.hid (HR.out.keep HB4.out (Nat.le_refl _))
    clear hb4
    have hzz : (z != z) = false := by simp
    go_wp2_with fail
    refine (toInts_any ao b off cap xs _ HR4.out (by omega)).mono ?_
    rintro e w5 ⟨rfl, hb5, hi5, _⟩
    have HB5 := Lib.hid (HB4.out.trans (hb5.mono HB4.out.size))
    have HI5 := Lib.hid (Row.of_rowIs hi5)
    have HJ5 := Lib.hid (HI4.out.keep hb5 (Nat.le_refl _))
    clear hb5 hi5
    go_wp2_with fail
    refine (eqInts_yes _ _ _ 0 xs.length _ 0 xs.length xs _ HJ5.out HI5.out hl).mono ?_
    rintro e w6 ⟨rfl, q, rfl⟩
    go_wp2_with fail
    go_ret
    exact ⟨rfl, below_drewN HB5.out q⟩
  · go_enter Try.func11, Try.ntmps11
    go_wp2_with fail
    go_ret
    exact ⟨rfl, Below.refl _ _⟩

set_option maxHeartbeats 1000000 in
theorem walkExactAskSafe (n : Int) (ao : Option Addr) (b off cap : Nat) (xs : List Int) (i : Int) (w : World) (_hn : (Lit.int .i64 n).wf = true) (hr : Row .i64 w ao b off xs) (hcl : xs.length ≤ cap ∧ cap ≤ 9223372036854775807) (_hw : ∀ i, i < xs.length → (Lit.int .i64 (xs.getD i 0)).wf = true) (_hi : (Lit.int .i64 i).wf = true) :
    Calls Try.prog 12 #[.int .i64 n, .slice ao xs.length cap, .int .i64 i] w fun e w' => e = .returned (.bool true) ∧ Below w.heap.size w w' := by
  have hl : xs.length ≤ 9223372036854775807 := by omega
  by_cases h20 : xs.length ≤ 1048576
  · have HR := Lib.hid hr
    obtain ⟨z, hz⟩ : ∃ z : Bool, (safeB n xs i) = z := ⟨_, rfl⟩
    have HZ := Lib.hid hz
    clear hr hz
    go_enter Try.func12, Try.ntmps12
    go_wp2_with fail
    refine (toInts_any ao b off cap xs w HR.out (by omega)).mono ?_
    rintro e w1 ⟨rfl, hb1, hi1, _⟩
    have HB1 := Lib.hid hb1
    have HI1 := Lib.hid (Row.of_rowIs hi1)
    clear hb1 hi1
    go_wp2_with fail
    refine (askSafeS n i _ _ 0 xs.length xs _ HI1.out (fun h => by cases h) (by omega)).mono ?_
    rw [HZ.out]
    rintro e w2 ⟨rfl, hb2⟩
    have HB2 := Lib.hid (HB1.out.trans (hb2.mono HB1.out.size))
    have HR2 := Lib.hid (HR.out.keep HB2.out (Nat.le_refl _))
    clear hb2
    go_wp2_with fail
    refine (toInts_any ao b off cap xs _ HR2.out (by omega)).mono ?_
    rintro e w3 ⟨rfl, hb3, hi3, _⟩
    have HB3 := Lib.hid (HB2.out.trans (hb3.mono HB2.out.size))
    have HI3 := Lib.hid (Row.of_rowIs hi3)
    clear hb3 hi3
    go_wp2_with fail
    refine (askSafeI n i _ _ 0 xs.length xs _ HI3.out (fun h => by cases h) (by omega)).mono ?_
    rw [HZ.out]
    rintro e w4 ⟨rfl, hb4⟩
    have HB4 := Lib.hid (HB3.out.trans (hb4.mono HB3.out.size))
    have HI4 := Lib.hid (HI3.out.keep hb4 (Nat.le_refl _))
    have HR4 := Lib.hid (HR.out.keep HB4.out (Nat.le_refl _))
    clear hb4
    have hzz : (z != z) = false := by simp
    go_wp2_with fail
    refine (toInts_any ao b off cap xs _ HR4.out (by omega)).mono ?_
    rintro e w5 ⟨rfl, hb5, hi5, _⟩
    have HB5 := Lib.hid (HB4.out.trans (hb5.mono HB4.out.size))
    have HI5 := Lib.hid (Row.of_rowIs hi5)
    have HJ5 := Lib.hid (HI4.out.keep hb5 (Nat.le_refl _))
    clear hb5 hi5
    go_wp2_with fail
    refine (eqInts_yes _ _ _ 0 xs.length _ 0 xs.length xs _ HJ5.out HI5.out hl).mono ?_
    rintro e w6 ⟨rfl, q, rfl⟩
    go_wp2_with fail
    go_ret
    exact ⟨rfl, below_drewN HB5.out q⟩
  · go_enter Try.func12, Try.ntmps12
    go_wp2_with fail
    go_ret
    exact ⟨rfl, Below.refl _ _⟩
end Go.Proofs.Ytjglikccikeejaa
