/-
  The walk of laws.FnExecuteRest.
-/
import Derived.Test.YtlmlchkolcmhpaaGreatDoorYLawXN
import Derived.Test.YtlmlchkolcmhpaaGreatDoorJ7
namespace Go.Proofs.YtlmlchkolcmhpaaGreatDoor
open Go.RowKit
open Go.TextMath (tvB mvB text word)
open Go.ParseMath

set_option maxRecDepth 100000 in
set_option maxHeartbeats 4000000 in
theorem executeRest (a0 : Option Addr) (b0 o0 cap0 : Nat) (xs0 : List Int) (w : World) (hr0 : Row .u8 w a0 b0 o0 xs0) (hl0 : xs0.length ≤ cap0 ∧ cap0 ≤ 9223372036854775807) (hw0 : ∀ i, i < xs0.length → (Lit.int .u8 (xs0.getD i 0)).wf = true) (ht : LibM w) :
    Calls Tryz.prog 5 #[.slice a0 xs0.length cap0] w fun e w' => e = .returned (.bool true) ∧ Below w.heap.size w w' := by
  have HP := Lib.hid ht
  have HD := Lib.hid (drawExD a0 b0 o0 cap0 xs0 w hr0 hl0 hw0)
  clear hr0 hw0 ht
  by_cases hbig : 1048576 < xs0.length
  · go_enter Tryz.func5, Tryz.ntmps5
    go_wp2_with fail
    go_ret
    exact ⟨rfl, Below.refl _ _⟩
  · have hs0 : xs0.length ≤ 1048576 := by omega
    clear hbig
    go_enter Tryz.func5, Tryz.ntmps5
    go_wp2_with fail
    refine (HD.out).mono ?_
    rintro e w1 ⟨S, rfl, hS, hb1⟩
    have HB1 := Lib.hid hb1
    have HP1 := Lib.hid (HP.out.keep hb1 (Nat.le_refl _))
    clear hb1
    obtain ⟨X, hX, hsp, him⟩ := both S (by omega)
    have HSP := Lib.hid hsp
    have HIM := Lib.hid him
    have HX := Lib.hid hX
    clear hX hsp him
    go_wp2_with fail
    refine (HIM.out w1 HP1.out).mono ?_
    rintro e w2 ⟨rfl, hb2⟩
    have HB2 := Lib.hid (HB1.out.trans (hb2.mono HB1.out.size))
    clear hb2
    go_wp2_with fail
    refine (HSP.out w2).mono ?_
    rintro e w3 ⟨rfl, hb3⟩
    have HB3 := Lib.hid (HB2.out.trans (hb3.mono HB2.out.size))
    have HP3 := Lib.hid (HP.out.keep HB3.out (Nat.le_refl _))
    clear hb3
    by_cases h5 : 500 < S.size
    · have h5i : (500 : Int) < (S.size : Int) := by omega
      have x1 : (X.toList == [116, 111, 111, 32, 108, 111, 110, 103, 10]) = true := by
        rw [Lib.toList_data, HX.out]
        unfold execM
        rw [if_neg (by rw [Array.length_toList]; show ¬ S.size ≤ 500; omega)]
        rfl
      go_wp2_with fail
      go_ret
      exact ⟨rfl, HB3.out⟩
    · have h5i : (S.size : Int) ≤ 500 := by omega
      have hl5 : S.data.toList.length ≤ 500 := by rw [Array.length_toList]; show S.size ≤ 500; omega
      have hcl := comp_le S.data.toList
      have HCO := Lib.hid (completeD S (by omega) w3)
      obtain ⟨C, hC⟩ : ∃ C, bs (compM S.data.toList) = C := ⟨_, rfl⟩
      have hCl : C.data.toList = compM S.data.toList := by rw [← hC]; rfl
      rw [hC] at HCO
      obtain ⟨Y, hY, -, hiy⟩ := both C (by rw [← hC, bs_size]; omega)
      have hYX : Y = X := bytes_ext (by rw [hY, hCl, HX.out, exec_comp (by omega), exec_is hl5])
      rw [hYX] at hiy
      have HIY := Lib.hid hiy
      clear hC hCl hY hYX hiy hl5 hcl h5
      go_wp2_with fail
      refine (HCO.out).mono ?_
      rintro e w4 ⟨rfl, rfl⟩
      go_wp2_with fail
      refine (HIY.out w3 HP3.out).mono ?_
      rintro e w5 ⟨rfl, hb5⟩
      have HB5 := Lib.hid (HB3.out.trans (hb5.mono HB3.out.size))
      clear hb5
      go_wp2_with fail
      go_ret
      exact ⟨rfl, HB5.out⟩
end Go.Proofs.YtlmlchkolcmhpaaGreatDoor
