/-
  Contracts: impl.tells, impl.AskRank, impl.AskTells, impl.AskTold, impl.AskSafe.
-/
import Derived.Test.YtjglikccikeejabRankI2
import Derived.Test.YtjglikccikeejabConcat
namespace Go.Proofs.Ytjglikccikeejab
open Go.RowKit
open Go.AskMath (Mat rnk tel tld)

theorem row1 (w : World) (P : Int) : Row .i64 (w.alloc (.cells #[.int .i64 P] 3)) (some ⟨w.heap.size, 0, none⟩) w.heap.size 0 [P] :=
  ⟨fun _ => rfl, fun i hi => by
    obtain rfl : i = 0 := by simpa using hi
    rw [World.cell?_alloc_new]; rfl⟩

theorem concat1 (ao : Option Addr) (b off cap : Nat) (xs : List Int) (P : Int) (w : World) (hr : Row .i64 w ao b off xs) (hcap : ao = none → cap = 0) (hl : xs.length ≤ 10000000) :
    Calls Try.prog 41 #[.slice (some ⟨w.heap.size + 1, 0, none⟩) 2 2] ((w.alloc (.cells #[.int .i64 P] 3)).alloc (.cells #[.slice ao xs.length cap, .slice (some ⟨w.heap.size, 0, none⟩) 1 1] 23))
      fun e w' => ∃ v, e = .returned v ∧ Own w' w.heap.size v (xs ++ [P]) ∧ Below w.heap.size w w' := by
  have hs1 : (w.alloc (.cells #[.int .i64 P] 3)).heap.size = w.heap.size + 1 := by simp
  have hb : Below w.heap.size w ((w.alloc (.cells #[.int .i64 P] 3)).alloc (.cells #[.slice ao xs.length cap, .slice (some ⟨w.heap.size, 0, none⟩) 1 1] 23)) := ((Below.refl _ _).alloc (Nat.le_refl _) _).alloc (by omega) _
  refine (concatI (w.heap.size + 1) ao (some ⟨w.heap.size, 0, none⟩) b off cap w.heap.size 0 1 xs [P] _ (by rw [← hs1, World.cell?_alloc_new]; rfl) (by rw [← hs1, World.cell?_alloc_new]; rfl)
    (hr.keep hb (Nat.le_refl _)) hcap ((row1 w P).keep ((Below.refl _ _).alloc (Nat.le_refl _) _) (Nat.le_refl _)) (fun h => by cases h) hl (by simp) (by simp)).mono ?_
  rintro e w' ⟨v, rfl, hO, hB⟩
  have hs := hb.size
  exact ⟨v, rfl, hO.mono hs, hb.trans (hB.mono hs)⟩

theorem snoc_range {i : Nat} {xs : List Int} (hi : i < 6) (hx : ∀ i, i < xs.length → 0 ≤ xs.getD i 0 ∧ xs.getD i 0 ≤ 1000) : ∀ j, j < (xs ++ [(2 : Int) ^ i]).length → 0 ≤ (xs ++ [(2 : Int) ^ i]).getD j 0 ∧ (xs ++ [(2 : Int) ^ i]).getD j 0 ≤ 1000 := by
  intro j hj
  have h64 : (2 : Int) ^ i ≤ 64 := pow_le (a := 2) (k := i) (n := 6) (by decide) (by omega)
  have h0 : (0 : Int) < 2 ^ i := Int.pow_pos (by omega)
  simp only [List.length_append, List.length_singleton] at hj
  by_cases hjx : j < xs.length
  · have := hx j hjx
    rw [List.getD_eq_getElem?_getD] at this ⊢
    rw [List.getElem?_append_left hjx]; exact this
  · obtain rfl : j = xs.length := by omega
    rw [List.getD_eq_getElem?_getD]; simp; omega

set_option maxHeartbeats 2000000 in
theorem tellsI (n i : Nat) (ao : Option Addr) (b off cap : Nat) (xs : List Int) (w : World) (hr : Row .i64 w ao b off xs) (hcap : ao = none → cap = 0) (hn1 : 1 ≤ n) (hn : n ≤ 6) (hi : i < n) (hl : xs.length ≤ 900) (hx : ∀ i, i < xs.length → 0 ≤ xs.getD i 0 ∧ xs.getD i 0 ≤ 1000) :
    Calls Try.prog 36 #[.int .i64 n, .slice ao xs.length cap, .int .i64 i] w fun e w' => e = .returned (.bool (tel n xs i)) ∧ Below w.heap.size w w' := by
  have HR := Lib.hid hr
  have HX := Lib.hid hx
  have HC := Lib.hid hcap
  clear hr hx hcap
  have hw : IntKind.i64.wrap ((2 : Int) ^ i) = 2 ^ i := by
    have h0 : (0 : Int) < 2 ^ i := Int.pow_pos (by omega)
    exact IntWalk.i64_in _ ⟨by omega, two_le (by omega)⟩
  go_enter Try.func36, Try.ntmps36
  go_wp2_with fail
  refine (concat1 ao b off cap xs (2 ^ i) w HR.out HC.out (by omega)).mono ?_
  rintro e w1 ⟨v, rfl, hO, hB⟩
  clear hw
  have HYX := Lib.hid (snoc_range (by omega) HX.out : ∀ j, j < (xs ++ [(2 : Int) ^ i]).length → 0 ≤ (xs ++ [(2 : Int) ^ i]).getD j 0 ∧ (xs ++ [(2 : Int) ^ i]).getD j 0 ≤ 1000)
  have hyl : (xs ++ [(2 : Int) ^ i]).length ≤ 1000 := by simp; omega
  obtain ⟨ys, hys⟩ : ∃ ys, xs ++ [(2 : Int) ^ i] = ys := ⟨_, rfl⟩
  rw [hys] at hO HYX hyl
  obtain ⟨ao2, b2, cap2, rfl, _, _, hr2, _, _⟩ := hO.row
  have HR2 := Lib.hid hr2
  have HB := Lib.hid hB
  have HYS := Lib.hid hys
  clear hO hr2 hB hys
  go_wp2_with fail
  refine (rankI n ao2 b2 0 cap2 ys _ HR2.out hn1 hn hyl HYX.out).mono ?_
  rintro e w2 ⟨rfl, hB2⟩
  have HB2 := Lib.hid (HB.out.trans (hB2.mono HB.out.size))
  have HRX := Lib.hid (HR.out.keep HB2.out (Nat.le_refl _))
  clear hB2
  go_wp2_with fail
  refine (rankI n ao b off cap xs _ HRX.out hn1 hn (by omega) HX.out).mono ?_
  rintro e w3 ⟨rfl, hB3⟩
  have HB3 := Lib.hid (HB2.out.trans (hB3.mono HB2.out.size))
  clear hB3
  have HT := Lib.hid (show (((rnk n ys : Nat) : Int) == ((rnk n xs : Nat) : Int)) = tel n xs i by
    unfold tel Go.AskMath.unit
    rw [HYS.out, Bool.eq_iff_iff]
    simp only [beq_iff_eq, decide_eq_true_eq]
    exact Int.ofNat_inj)
  go_wp2_with fail
  go_ret
  exact ⟨congrArg (fun z => Ending.returned (.bool z)) HT.out, HB3.out⟩

set_option maxHeartbeats 2000000 in
theorem askRankI (n : Int) (ao : Option Addr) (b off cap : Nat) (xs : List Int) (w : World) (hr : Row .i64 w ao b off xs) (hl : xs.length ≤ 9223372036854775807) :
    Calls Try.prog 19 #[.int .i64 n, .slice ao xs.length cap] w fun e w' => e = .returned (.int .i64 (if vldB n xs then (rnk n.toNat xs : Int) else -1)) ∧ Below w.heap.size w w' := by
  have HR := Lib.hid hr
  obtain ⟨z, hz⟩ : ∃ z : Int, (if vldB n xs then (rnk n.toNat xs : Int) else -1) = z := ⟨_, rfl⟩
  rw [hz]
  have HZ := Lib.hid hz
  clear hr hz
  go_enter Try.func19, Try.ntmps19
  go_wp2_with fail
  refine (validI n ao b off cap xs w HR.out hl).mono ?_
  rintro e w1 ⟨rfl, rfl⟩
  cases hv : vldB n xs with
  | false =>
    have hz : z = -1 := by rw [← HZ.out, hv]; rfl
    clear hv
    go_wp2_with fail
    all_goals
      go_ret
      exact ⟨by rw [hz]; rfl, Below.refl _ _⟩
  | true =>
    obtain ⟨m, rfl, hm1, hm6, hx12, hx⟩ := vld_range hv
    have HX := Lib.hid hx
    clear hx
    go_wp2_with fail
    refine (rankI m ao b off cap xs _ HR.out hm1 hm6 (by omega) HX.out).mono ?_
    rintro e w2 ⟨rfl, hB⟩
    have HB := Lib.hid hB
    clear hB
    go_wp2_with fail
    go_ret
    exact ⟨by rw [← HZ.out, hv]; rfl, HB.out⟩

set_option maxHeartbeats 2000000 in
theorem askToldI (n : Int) (ao : Option Addr) (b off cap : Nat) (xs : List Int) (w : World) (hr : Row .i64 w ao b off xs) (hcap : ao = none → cap = 0) (hl : xs.length ≤ 9223372036854775807) :
    Calls Try.prog 21 #[.int .i64 n, .slice ao xs.length cap] w fun e w' => e = .returned (.int .i64 (if vldB n xs then (tld n.toNat xs n.toNat : Int) else -1)) ∧ Below w.heap.size w w' := by
  have HR := Lib.hid hr
  have HC := Lib.hid hcap
  obtain ⟨z, hz⟩ : ∃ z : Int, (if vldB n xs then (tld n.toNat xs n.toNat : Int) else -1) = z := ⟨_, rfl⟩
  rw [hz]
  have HZ := Lib.hid hz
  clear hr hz hcap
  go_enter Try.func21, Try.ntmps21
  go_wp2_with fail
  refine (validI n ao b off cap xs w HR.out hl).mono ?_
  rintro e w1 ⟨rfl, rfl⟩
  cases hv : vldB n xs with
  | false =>
    have hz : z = -1 := by rw [← HZ.out, hv]; rfl
    clear hv
    go_wp2_with fail
    all_goals
      go_ret
      exact ⟨by rw [hz]; rfl, Below.refl _ _⟩
  | true =>
    obtain ⟨m, rfl, hm1, hm6, hx12, hx⟩ := vld_range hv
    have hz : z = (tld m xs m : Int) := by rw [← HZ.out, hv]; rfl
    have HX := Lib.hid hx
    clear hx hv HZ
    have HZ := Lib.hid hz
    clear hz
    have HB0 := Lib.hid (Below.refl w.heap.size w)
    go_wp2_with fail
    go_loopw [5, 12] (fun v si wr => ∃ k : Nat, k ≤ m ∧ v = .int .i64 (tld m xs k : Nat) ∧ si = .int .i64 k ∧ Below w.heap.size w wr) (fun _ si _ => m - (intOf si).toNat)
    case atStart => exact ⟨0, Nat.zero_le _, rfl, rfl, HB0.out⟩
    case round =>
      clear HB0
      obtain ⟨k, hk, rfl, rfl, hB⟩ := hrel
      have HB := Lib.hid hB
      clear hB
      by_cases hlt : k < m
      · have HRX := Lib.hid (HR.out.keep HB.out (Nat.le_refl _))
        have hle := Go.AskMath.tld_le m xs k
        have hsucc : tld m xs (k + 1) = tld m xs k + if tel m xs k then 1 else 0 := rfl
        obtain ⟨t, ht⟩ : ∃ t, tld m xs k = t := ⟨_, rfl⟩
        rw [ht] at hle hsucc ⊢
        have HS := Lib.hid hsucc
        clear hsucc ht
        go_wp2_with fail
        refine (tellsI m k ao b off cap xs _ HRX.out HC.out hm1 hm6 hlt (by omega) HX.out).mono ?_
        rintro e w2 ⟨rfl, hB2⟩
        have HB2 := Lib.hid (HB.out.trans (hB2.mono HB.out.size))
        clear hB2
        cases ht : tel m xs k with
        | true =>
          have hs := HS.out
          rw [ht, if_pos rfl] at hs
          have HS2 := Lib.hid hs
          clear hs ht
          go_wp2_with fail
          go_roundw
          case rel => exact ⟨k + 1, by omega, by rw [HS2.out]; go_num, by go_num, HB2.out⟩
          case measure => simp [intOf]; omega
        | false =>
          have hs := HS.out
          rw [ht, if_neg (by simp)] at hs
          have HS2 := Lib.hid hs
          clear hs ht
          go_wp2_with fail
          go_roundw
          case rel => exact ⟨k + 1, by omega, by rw [HS2.out]; go_num, by go_num, HB2.out⟩
          case measure => simp [intOf]; omega
      · obtain rfl : k = m := by omega
        have hle := Go.AskMath.tld_le k xs k
        go_wp2_with fail
        go_ret
        exact ⟨by rw [HZ.out]; rfl, HB.out⟩

set_option maxHeartbeats 2000000 in
theorem askTellsI (n i : Int) (ao : Option Addr) (b off cap : Nat) (xs : List Int) (w : World) (hr : Row .i64 w ao b off xs) (hcap : ao = none → cap = 0) (hl : xs.length ≤ 9223372036854775807) :
    Calls Try.prog 16 #[.int .i64 n, .slice ao xs.length cap, .int .i64 i] w fun e w' => e = .returned (.bool (vldB n xs && (decide (0 ≤ i ∧ i < n) && tel n.toNat xs i.toNat))) ∧ Below w.heap.size w w' := by
  have HR := Lib.hid hr
  have HC := Lib.hid hcap
  obtain ⟨z, hz⟩ : ∃ z : Bool, (vldB n xs && (decide (0 ≤ i ∧ i < n) && tel n.toNat xs i.toNat)) = z := ⟨_, rfl⟩
  rw [hz]
  have HZ := Lib.hid hz
  clear hr hz hcap
  go_enter Try.func16, Try.ntmps16
  go_wp2_with fail
  refine (validI n ao b off cap xs w HR.out hl).mono ?_
  rintro e w1 ⟨rfl, rfl⟩
  cases hv : vldB n xs with
  | false =>
    have hz : z = false := by rw [← HZ.out, hv]; rfl
    clear hv
    go_wp2_with fail
    all_goals
      go_ret
      exact ⟨by rw [hz]; rfl, Below.refl _ _⟩
  | true =>
    obtain ⟨m, rfl, hm1, hm6, hx12, hx⟩ := vld_range hv
    have HX := Lib.hid hx
    have HV := Lib.hid hv
    clear hx hv
    by_cases hin : 0 ≤ i ∧ i < m
    · obtain ⟨j, rfl⟩ := Int.eq_ofNat_of_zero_le hin.1
      have hj : j < m := by omega
      have HZ2 := Lib.hid (show z = tel m xs j by rw [← HZ.out, HV.out, decide_eq_true hin]; rfl)
      clear hin
      go_wp2_with fail
      refine (tellsI m j ao b off cap xs _ HR.out HC.out hm1 hm6 hj (by omega) HX.out).mono ?_
      rintro e w2 ⟨rfl, hB2⟩
      have HB2 := Lib.hid hB2
      clear hB2
      go_wp2_with fail
      all_goals
        go_ret
        exact ⟨by rw [HZ2.out]; rfl, HB2.out⟩
    · have hz : z = false := by rw [← HZ.out, decide_eq_false hin]; simp
      have HZ2 := Lib.hid hz
      clear hz
      by_cases h0 : 0 ≤ i
      · have h1 : ¬ i < m := by omega
        clear hin
        go_wp2_with fail
        all_goals
          go_ret
          exact ⟨by rw [HZ2.out]; rfl, Below.refl _ _⟩
      · clear hin
        go_wp2_with fail
        all_goals
          go_ret
          exact ⟨by rw [HZ2.out]; rfl, Below.refl _ _⟩

/-- A further question is safe. -/
def safeB (n : Int) (xs : List Int) (q : Int) : Bool := (if vldB n (xs ++ [q]) then (tld n.toNat (xs ++ [q]) n.toNat : Int) else -1) == 0

set_option maxHeartbeats 2000000 in
theorem askSafeI (n q : Int) (ao : Option Addr) (b off cap : Nat) (xs : List Int) (w : World) (hr : Row .i64 w ao b off xs) (hcap : ao = none → cap = 0) (hl : xs.length ≤ 10000000) :
    Calls Try.prog 28 #[.int .i64 n, .slice ao xs.length cap, .int .i64 q] w fun e w' => e = .returned (.bool (safeB n xs q)) ∧ Below w.heap.size w w' := by
  have HR := Lib.hid hr
  have HC := Lib.hid hcap
  obtain ⟨z, hz⟩ : ∃ z : Bool, safeB n xs q = z := ⟨_, rfl⟩
  rw [hz]
  have HZ := Lib.hid hz
  clear hr hz hcap
  go_enter Try.func28, Try.ntmps28
  go_wp2_with fail
  refine (concat1 ao b off cap xs q w HR.out HC.out hl).mono ?_
  rintro e w1 ⟨v, rfl, hO, hB⟩
  have hyl : (xs ++ [q]).length ≤ 9223372036854775807 := by simp; omega
  unfold safeB at HZ
  obtain ⟨ys, hys⟩ : ∃ ys, xs ++ [q] = ys := ⟨_, rfl⟩
  rw [hys] at hO hyl HZ
  obtain ⟨ao2, b2, cap2, rfl, _, _, hr2, _, hc2⟩ := hO.row
  have HR2 := Lib.hid hr2
  have HB := Lib.hid hB
  have HC2 := Lib.hid hc2
  clear hO hr2 hB hys hc2
  go_wp2_with fail
  refine (askToldI n ao2 b2 0 cap2 ys _ HR2.out HC2.out hyl).mono ?_
  rintro e w2 ⟨rfl, hB2⟩
  have HB2 := Lib.hid (HB.out.trans (hB2.mono HB.out.size))
  obtain ⟨t, ht⟩ : ∃ t : Int, (if vldB n ys then (tld n.toNat ys n.toNat : Int) else -1) = t := ⟨_, rfl⟩
  rw [ht] at HZ
  rw [ht]
  clear hB2 ht
  go_wp2_with fail
  go_ret
  exact ⟨by rw [← HZ.out]; rfl, HB2.out⟩
end Go.Proofs.Ytjglikccikeejab
