/-
  The walk of laws.FnExactTableText.
-/
import Derived.Test.YtgnmfbgoacfjeaaDoorTexts
import Derived.Test.YtgnmfbgoacfjeaaDoorIntss
namespace Go.Proofs.YtgnmfbgoacfjeaaDoor
open Go.RowKit

set_option maxHeartbeats 1000000 in
theorem exactTableText (ao : Option Addr) (b off cap : Nat) (T : List (List Int)) (w : World) (hr : Tab .i64 w ao b off T) (hlc : T.length ≤ cap ∧ cap ≤ 9223372036854775807) (ht : PowTab w) :
    Calls Tryd.prog 6 #[.slice ao T.length cap] w fun e w' => e = .returned (.bool true) ∧ Below w.heap.size w w' := by
  have HR := Lib.hid hr
  have HP := Lib.hid ht
  have hl : T.length ≤ 9223372036854775807 := by omega
  clear hr ht hlc
  go_enter Tryd.func6, Tryd.ntmps6
  go_wp2_with fail
  refine (szI_any ao b off cap T 1048576 w HR.out (by omega) (by omega) hl).mono ?_
  rintro e w' ⟨rfl, z, rfl, hz0, hz1, hz⟩
  have HZ := Lib.hid hz
  clear hz
  by_cases h0 : z < 0
  · go_wp2_with fail
    go_ret
    exact ⟨rfl, Below.refl _ _⟩
  · obtain ⟨hl1, hl2⟩ := HZ.out (by omega)
    have HL2 := Lib.hid hl2
    clear hl2
    go_wp2_with fail
    refine (toIntss ao b off cap T w HR.out hl1 HL2.out).mono ?_
    rintro e w1 ⟨rfl, hb1, ht1⟩
    have HB1 := Lib.hid hb1
    have HT1 := Lib.hid ht1
    clear hb1 ht1
    go_wp2_with fail
    refine (tableTextS _ w.heap.size 0 _ T w1 HT1.out hl).mono ?_
    rintro e w2 ⟨rfl, hb2⟩
    have HB2 := Lib.hid (HB1.out.trans (hb2.mono HB1.out.size))
    clear hb2
    go_wp2_with fail
    have HR2 := Lib.hid (HR.out.keep HB2.out (Nat.le_refl _))
    refine (toIntss ao b off cap T w2 HR2.out hl1 HL2.out).mono ?_
    rintro e w3 ⟨rfl, hb3, ht3⟩
    have HB3 := Lib.hid (HB2.out.trans (hb3.mono HB2.out.size))
    have HT3 := Lib.hid ht3
    clear hb3 ht3
    go_wp2_with fail
    refine (tableTextI _ w2.heap.size 0 _ T w3 HT3.out hl (HP.out.keep HB3.out (Nat.le_refl _))).mono ?_
    rintro e w4 ⟨rfl, hb4⟩
    have HB4 := Lib.hid (HB3.out.trans (hb4.mono HB3.out.size))
    have HT4 := Lib.hid (HT3.out.keep hb4 (Nat.le_refl _))
    clear hb4
    go_wp2_with fail
    have HR4 := Lib.hid (HR.out.keep HB4.out (Nat.le_refl _))
    refine (toIntss ao b off cap T w4 HR4.out hl1 HL2.out).mono ?_
    rintro e w5 ⟨rfl, hb5, ht5⟩
    have HB5 := Lib.hid (HB4.out.trans (hb5.mono HB4.out.size))
    have HT5 := Lib.hid ht5
    have HT45 := Lib.hid (HT4.out.keep hb5 (Nat.le_refl _))
    clear hb5 ht5
    go_wp2_with fail
    refine (eqIntss _ _ w2.heap.size 0 _ w4.heap.size 0 _ T w5 HT45.out HT5.out hl).mono ?_
    rintro e w6 ⟨rfl, q, rfl⟩
    go_wp2_with fail
    go_ret
    exact ⟨rfl, below_drewN HB5.out q⟩
end Go.Proofs.YtgnmfbgoacfjeaaDoor
