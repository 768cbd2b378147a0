/-
  Contract of spec.l33Tells.
-/
import Derived.Test.YtjglikccikeejabAskS
namespace Go.Proofs.Ytjglikccikeejab
open Go.RowKit
open Go.AskMath (Mat rnk tel)

/-- append of a whole slice as a step of a region that draws its order. -/
theorem step_appL {ops : Array Oper} {o : Oper} {a : Act} {w : World} {K : Act → World → Prop} {Q : Exit → Act → World → Prop} {E : Prop} (hg : o.guard = none) (s x : Operand)
    (ho : o.op = .call { callee := .builtin .append, args := #[s, x], argTypes := #[23, 23] }) (base : Nat) (v : Value) (zs : List Int) (hs : a.eval s = v) (hown : Own w base v zs)
    (ao : Option Addr) (b off cap : Nat) (ys : List Int) (hx : a.eval x = .slice ao ys.length cap) (hcap : ao = none → cap = 0) (hr : Row .i64 w ao b off ys) (hl : zs.length ≤ 1000000000) (hl2 : ys.length ≤ 1000000000) (hbase : base ≤ w.heap.size)
    (h : ∀ v' w', Own w' base v' (zs ++ ys) → Below base w w' → w.grownBy w' v.ownBlock → K (a.put o.dst v') w') :
    if Region.wanted o (yielded ops a.tmps) = true then o.wp Try.prog a w K Q else E := by
  have hw : Region.wanted o (yielded ops a.tmps) = true := by simp [Region.wanted, hg]
  rw [if_pos hw]
  exact wp_appL s x ho base v zs hs hown ao b off cap ys hx hcap hr hl hl2 hbase h

set_option maxHeartbeats 2000000 in
theorem tellsS (n i : Nat) (ao : Option Addr) (b off cap : Nat) (xs : List Int) (w : World) (hr : Row .i64 w ao b off xs) (hcap : ao = none → cap = 0) (hn1 : 1 ≤ n) (hn : n ≤ 6) (hi : i < n) (hl : xs.length ≤ 900) (hx : ∀ i, i < xs.length → 0 ≤ xs.getD i 0 ∧ xs.getD i 0 ≤ 1000) :
    Calls Try.prog 38 #[.int .i64 n, .slice ao xs.length cap, .int .i64 i] w fun e w' => e = .returned (.bool (tel n xs i)) ∧ Below w.heap.size w w' := by
  have HR := Lib.hid hr
  have HX := Lib.hid hx
  have HC := Lib.hid hcap
  clear hr hx hcap
  go_enter Try.func38, Try.ntmps38
  have HO0 := Lib.hid (Own.lit (w := w) (base := w.heap.size) [] (Nat.le_refl _) (by simp))
  have HRA := Lib.hid (HR.out.keep ((Below.refl w.heap.size w).alloc (Nat.le_refl _) (.cells #[] 3)) (Nat.le_refl _))
  have HB0 := Lib.hid ((Below.refl w.heap.size w).alloc (Nat.le_refl _) (.cells #[] 3))
  go_wp2_with (at_builtin; refine wpList_appL rfl (.tmp 8) (.tmp 9) rfl w.heap.size _ [] rfl HO0.out ao b off cap xs rfl HC.out HRA.out ?k3 ?k4 ?k5 ?_)
  case k3 => simp
  case k4 => omega
  case k5 => simp
  intro v1 w1 hO1 hB1 _
  have HO1 := Lib.hid hO1
  have HB1 := Lib.hid (HB0.out.trans hB1)
  clear hO1 hB1 HO0 HRA HB0
  go_wp2_with fail
  refine (power2_any (i : Int) _ (by omega) (by omega)).mono ?_
  rintro e w2 ⟨rfl, rfl⟩
  have hs1 := HB1.out.size
  go_wp2_with (at_builtin; refine wpList_app1 rfl (.tmp 10) (.tmp 13) rfl w.heap.size _ xs rfl HO1.out (2 ^ i) rfl rfl ?m1 ?m2 ?_)
  case m1 => omega
  case m2 => omega
  intro v2 w2 hO2 hB2 _
  have hB3 := HB1.out.trans hB2
  clear hB2 HO1 HB1 hs1
  obtain ⟨ys, hys⟩ : ∃ ys, xs ++ [(2 : Int) ^ i] = ys := ⟨_, rfl⟩
  rw [hys] at hO2
  have hyl : ys.length ≤ 1000 := by rw [← hys]; simp; omega
  have hyx : ∀ j, j < ys.length → 0 ≤ ys.getD j 0 ∧ ys.getD j 0 ≤ 1000 := by
    rw [← hys]
    intro j hj
    have h64 : (2 : Int) ^ i ≤ 64 := pow_le (a := 2) (k := i) (n := 6) (by decide) (by omega)
    have h0 : (0 : Int) < 2 ^ i := Int.pow_pos (by omega)
    simp only [List.length_append, List.length_singleton] at hj
    by_cases hjx : j < xs.length
    · have := HX.out j hjx
      rw [List.getD_eq_getElem?_getD] at this ⊢
      rw [List.getElem?_append_left hjx]; exact this
    · obtain rfl : j = xs.length := by omega
      rw [List.getD_eq_getElem?_getD]; simp; omega
  obtain ⟨ao2, b2, cap2, rfl, hl2, hc2, hr2, hb2, _⟩ := hO2.row
  have HYX := Lib.hid hyx
  have HR2 := Lib.hid hr2
  have HB3 := Lib.hid hB3
  have HYS := Lib.hid hys
  clear hys hyx hO2 hr2 hB3 hb2 hl2 hc2
  go_wp2_with fail
  refine (rowsS_any n ao2 b2 0 cap2 ys _ HR2.out hn1 hn hyl HYX.out).mono ?_
  rintro e w3 ⟨tb, mc, g, cp, rfl, hM, hB⟩
  have HM := Lib.hid hM
  have HB4 := Lib.hid (HB3.out.trans (hB.mono HB3.out.size))
  have hs4 := hB.size
  clear hM hB
  go_wp2_with fail
  refine (rankS_any HM.out (small_bits n ys hn) (by omega) (by omega)).mono ?_
  rintro e w4 ⟨r, R, d, rfl, hP, hB5⟩
  have hrk := Go.AskMath.bar_rnk (fun _ _ _ _ => rfl) hn hP
  subst hrk
  have HB5 := Lib.hid (HB4.out.trans (hB5.mono HB3.out.size))
  clear hP hB5
  have HRX := Lib.hid (HR.out.keep HB5.out (Nat.le_refl _))
  go_wp2_with fail
  refine (rowsS_any n ao b off cap xs _ HRX.out hn1 hn (by omega) HX.out).mono ?_
  rintro e w5 ⟨tb2, mc2, g2, cp2, rfl, hM, hB⟩
  have HM2 := Lib.hid hM
  have HB6 := Lib.hid (HB5.out.trans (hB.mono HB5.out.size))
  clear hM hB
  go_wp2_with fail
  refine (rankS_any HM2.out (small_bits n xs hn) (by omega) (by omega)).mono ?_
  rintro e w6 ⟨r2, R2, d2, rfl, hP2, hB7⟩
  have hrk2 := Go.AskMath.bar_rnk (fun _ _ _ _ => rfl) hn hP2
  subst hrk2
  have HB7 := Lib.hid (HB6.out.trans (hB7.mono HB5.out.size))
  clear hP2 hB7
  have HT := Lib.hid (show (((rnk n ys : Nat) : Int) == ((rnk n xs : Nat) : Int)) = tel n xs i by
    unfold tel Go.AskMath.unit
    rw [HYS.out, Bool.eq_iff_iff]
    simp only [beq_iff_eq, decide_eq_true_eq]
    exact Int.ofNat_inj)
  go_wp2_with fail
  go_ret
  exact ⟨congrArg (fun z => Ending.returned (.bool z)) HT.out, HB7.out⟩
end Go.Proofs.Ytjglikccikeejab
