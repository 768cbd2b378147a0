/-
  The walk of laws.FnExactPeopleText.
-/
import Derived.Test.YtgnmfbgoacfjeaaDoorPplText
import Derived.Test.YtgnmfbgoacfjeaaDoorPers
namespace Go.Proofs.YtgnmfbgoacfjeaaDoor
open Go.RowKit

set_option maxHeartbeats 1000000 in
theorem exactPeopleText (ao : Option Addr) (b off cap : Nat) (L : List Per) (w : World) (hr : Ppl w ao b off L) (hlc : L.length ≤ cap ∧ cap ≤ 9223372036854775807) (ht : PowTab w) :
    Calls Tryd.prog 3 #[.slice ao L.length cap] w fun e w' => e = .returned (.bool true) ∧ Below w.heap.size w w' := by
  have HR := Lib.hid hr
  have HP := Lib.hid ht
  have hl : L.length ≤ 9223372036854775807 := by omega
  clear hr ht hlc
  obtain ⟨z, hz⟩ : ∃ z, szP 1048576 L.length = z := ⟨_, rfl⟩
  have HZ := Lib.hid hz
  have hzz : z < 0 ∨ (0 ≤ z ∧ L.length ≤ 1048576) := by
    rw [← hz]; unfold szP; split <;> omega
  have hsz := szP_any L.length ao cap 1048576 w (by omega) (by omega) hl
  rw [hz] at hsz
  have HSZ := Lib.hid hsz
  clear hz hsz
  rcases hzz with h0 | ⟨h0, hl1⟩
  · go_enter Tryd.func3, Tryd.ntmps3
    go_wp2_with fail
    refine (HSZ.out).mono ?_
    rintro e w' ⟨rfl, rfl⟩
    go_wp2_with fail
    go_ret
    exact ⟨rfl, Below.refl _ _⟩
  · go_enter Tryd.func3, Tryd.ntmps3
    go_wp2_with fail
    refine (HSZ.out).mono ?_
    rintro e w' ⟨rfl, rfl⟩
    go_wp2_with fail
    refine (toPers ao b off cap L w HR.out hl1).mono ?_
    rintro e w1 ⟨rfl, hb1, ht1⟩
    have HB1 := Lib.hid hb1
    have HT1 := Lib.hid ht1
    clear hb1 ht1
    go_wp2_with fail
    refine (peopleTextS _ w.heap.size 0 _ L w1 HT1.out hl).mono ?_
    rintro e w2 ⟨rfl, hb2⟩
    have HB2 := Lib.hid (HB1.out.trans (hb2.mono HB1.out.size))
    clear hb2
    go_wp2_with fail
    have HR2 := Lib.hid (HR.out.keep HB2.out (Nat.le_refl _))
    refine (toPers ao b off cap L w2 HR2.out hl1).mono ?_
    rintro e w3 ⟨rfl, hb3, ht3⟩
    have HB3 := Lib.hid (HB2.out.trans (hb3.mono HB2.out.size))
    have HT3 := Lib.hid ht3
    clear hb3 ht3
    go_wp2_with fail
    refine (peopleTextI _ w2.heap.size 0 _ L w3 HT3.out hl (HP.out.keep HB3.out (Nat.le_refl _))).mono ?_
    rintro e w4 ⟨rfl, hb4⟩
    have HB4 := Lib.hid (HB3.out.trans (hb4.mono HB3.out.size))
    have HT4 := Lib.hid (HT3.out.keep hb4 (Nat.le_refl _))
    clear hb4
    go_wp2_with fail
    have HR4 := Lib.hid (HR.out.keep HB4.out (Nat.le_refl _))
    refine (toPers ao b off cap L w4 HR4.out hl1).mono ?_
    rintro e w5 ⟨rfl, hb5, ht5⟩
    have HB5 := Lib.hid (HB4.out.trans (hb5.mono HB4.out.size))
    have HT5 := Lib.hid ht5
    have HT45 := Lib.hid (HT4.out.keep hb5 (Nat.le_refl _))
    clear hb5 ht5
    go_wp2_with fail
    refine (eqPers _ _ w2.heap.size 0 _ w4.heap.size 0 _ L w5 HT45.out HT5.out hl).mono ?_
    rintro e w6 ⟨rfl, hb6⟩
    have HB6 := Lib.hid (HB5.out.trans (hb6.mono HB5.out.size))
    clear hb6
    go_wp2_with fail
    go_ret
    exact ⟨rfl, HB6.out⟩
end Go.Proofs.YtgnmfbgoacfjeaaDoor
