/-
  The walk of laws.FnExactMaskText.
-/
import Derived.Test.YtgnmfbgoacfjeaaDoorTextsM
import Derived.Test.YtgnmfbgoacfjeaaDoorIntss
import Derived.Test.YtgnmfbgoacfjeaaDoorBoolss
namespace Go.Proofs.YtgnmfbgoacfjeaaDoor
open Go.RowKit

set_option maxHeartbeats 2000000 in
theorem exactMaskText (ao : Option Addr) (b off cap : Nat) (T : List (List Int)) (am : Option Addr) (bm om cm : Nat) (M : List (List Bool)) (w : World) (hr : Tab .i64 w ao b off T) (hlc : T.length ≤ cap ∧ cap ≤ 9223372036854775807)
    (hm : TabB w am bm om M) (hmc : M.length ≤ cm ∧ cm ≤ 9223372036854775807) (ht : PowTab w) :
    Calls Tryd.prog 10 #[.slice ao T.length cap, .slice am M.length cm] w fun e w' => e = .returned (.bool true) ∧ Below w.heap.size w w' := by
  have HR := Lib.hid hr
  have HM := Lib.hid hm
  have HP := Lib.hid ht
  have hl : T.length ≤ 9223372036854775807 := by omega
  have hlm : M.length ≤ 9223372036854775807 := by omega
  clear hr hm ht hlc hmc
  go_enter Tryd.func10, Tryd.ntmps10
  go_wp2_with fail
  refine (szI_any ao b off cap T 1048576 w HR.out (by omega) (by omega) hl).mono ?_
  rintro e w' ⟨rfl, z, rfl, hz0, hz1, hz⟩
  have HZ := Lib.hid hz
  clear hz
  by_cases h0 : z < 0
  · go_wp2_with fail
    go_ret
    exact ⟨rfl, Below.refl _ _⟩
  obtain ⟨hl1, hl2⟩ := HZ.out (by omega)
  have HL2 := Lib.hid hl2
  have hzp : 0 ≤ z := by omega
  clear hl2 h0
  go_wp2_with fail
  refine (szB_any am bm om cm M z w HM.out hzp hz1 hlm).mono ?_
  rintro e w' ⟨rfl, z2, rfl, hz20, hz21, hz2⟩
  have HZ2 := Lib.hid hz2
  clear hz2
  by_cases h0 : z2 < 0
  · go_wp2_with fail
    go_ret
    exact ⟨rfl, Below.refl _ _⟩
  obtain ⟨hm1, hm2⟩ := HZ2.out (by omega)
  have HM2 := Lib.hid hm2
  have hzp2 : 0 ≤ z2 := by omega
  clear hm2 h0
  go_wp2_with fail
  refine (toIntss ao b off cap T w HR.out hl1 HL2.out).mono ?_
  rintro e w1 ⟨rfl, hb1, ht1⟩
  have HB1 := Lib.hid hb1
  have HT1 := Lib.hid ht1
  have HMw1 := Lib.hid (HM.out.keep hb1 (Nat.le_refl _))
  clear hb1 ht1
  go_wp2_with fail
  refine (toBoolss am bm om cm M w1 HMw1.out hm1 HM2.out).mono ?_
  rintro e w2 ⟨rfl, hb2, hm2⟩
  have HB2 := Lib.hid (HB1.out.trans (hb2.mono HB1.out.size))
  have HT2 := Lib.hid (HT1.out.keep hb2 (Nat.le_refl _))
  have HM22 := Lib.hid hm2
  clear hb2 hm2
  go_wp2_with fail
  refine (maskTextS _ w.heap.size 0 _ T _ w1.heap.size 0 _ M w2 HT2.out hl HM22.out ⟨Nat.le_refl _, hlm⟩).mono ?_
  rintro e w3 ⟨rfl, hb3⟩
  have HB3 := Lib.hid (HB2.out.trans (hb3.mono HB2.out.size))
  clear hb3
  go_wp2_with fail
  have HR3 := Lib.hid (HR.out.keep HB3.out (Nat.le_refl _))
  refine (toIntss ao b off cap T w3 HR3.out hl1 HL2.out).mono ?_
  rintro e w4 ⟨rfl, hb4, ht4⟩
  have HB4 := Lib.hid (HB3.out.trans (hb4.mono HB3.out.size))
  have HT4 := Lib.hid ht4
  clear hb4 ht4
  go_wp2_with fail
  have HMw4 := Lib.hid (HM.out.keep HB4.out (Nat.le_refl _))
  refine (toBoolss am bm om cm M w4 HMw4.out hm1 HM2.out).mono ?_
  rintro e w5 ⟨rfl, hb5, hm5⟩
  have HB5 := Lib.hid (HB4.out.trans (hb5.mono HB4.out.size))
  have HT5 := Lib.hid (HT4.out.keep hb5 (Nat.le_refl _))
  have HM5 := Lib.hid hm5
  clear hb5 hm5
  go_wp2_with fail
  refine (maskTextI _ w3.heap.size 0 _ T _ w4.heap.size 0 _ M w5 HT5.out hl HM5.out ⟨Nat.le_refl _, hlm⟩ (HP.out.keep HB5.out (Nat.le_refl _))).mono ?_
  rintro e w6 ⟨rfl, hb6⟩
  have HB6 := Lib.hid (HB5.out.trans (hb6.mono HB5.out.size))
  have HT6 := Lib.hid (HT5.out.keep hb6 (Nat.le_refl _))
  have HM6 := Lib.hid (HM5.out.keep hb6 (Nat.le_refl _))
  clear hb6
  go_wp2_with fail
  have HR6 := Lib.hid (HR.out.keep HB6.out (Nat.le_refl _))
  refine (toIntss ao b off cap T w6 HR6.out hl1 HL2.out).mono ?_
  rintro e w7 ⟨rfl, hb7, ht7⟩
  have HB7 := Lib.hid (HB6.out.trans (hb7.mono HB6.out.size))
  have HT7 := Lib.hid ht7
  have HT67 := Lib.hid (HT6.out.keep hb7 (Nat.le_refl _))
  have HM67 := Lib.hid (HM6.out.keep hb7 (Nat.le_refl _))
  clear hb7 ht7
  go_wp2_with fail
  refine (eqIntss _ _ w3.heap.size 0 _ w6.heap.size 0 _ T w7 HT67.out HT7.out hl).mono ?_
  rintro e w8 ⟨rfl, q, rfl⟩
  have HB8 := Lib.hid (below_drewN HB7.out q)
  go_wp2_with fail
  have HMw8 := Lib.hid (HM.out.keep HB8.out (Nat.le_refl _))
  refine (toBoolss am bm om cm M _ HMw8.out hm1 HM2.out).mono ?_
  rintro e w9 ⟨rfl, hb9, hm9⟩
  have HB9 := Lib.hid (HB8.out.trans (hb9.mono HB8.out.size))
  have HM9 := Lib.hid hm9
  have HM69 := Lib.hid ((HM67.out.drewN q).keep hb9 (Nat.le_refl _))
  clear hb9 hm9
  go_wp2_with fail
  refine (eqBoolss _ _ w4.heap.size 0 _ w7.heap.size 0 _ M w9 HM69.out HM9.out hlm).mono ?_
  rintro e w10 ⟨rfl, q2, rfl⟩
  go_wp2_with fail
  go_ret
  exact ⟨rfl, below_drewN HB9.out q2⟩
end Go.Proofs.YtgnmfbgoacfjeaaDoor
