/-
  The walk of laws.FnExactExecute.
-/
import Derived.Test.YtlmlchkolcmhpaaGreatDoorYExecAll
import Derived.Test.YtlmlchkolcmhpaaGreatDoorYExecSp
namespace Go.Proofs.YtlmlchkolcmhpaaGreatDoor
open Go.RowKit

set_option maxHeartbeats 2000000 in
theorem exactExecute (s : ByteArray) (w : World) (hs : s.size ≤ 9223372036854775807) (hl : LibM w) :
    Calls Tryz.prog 3 #[.string s] w fun e w' => e = .returned (.bool true) ∧ Below w.heap.size w w' := by
  have HL := Lib.hid hl
  clear hl
  by_cases hbig : 1048576 < s.size
  · go_enter Tryz.func3, Tryz.ntmps3
    go_wp2_with fail
    go_ret
    exact ⟨rfl, Below.refl _ _⟩
  · have hs1 : s.size ≤ 1048576 := by omega
    have HS := Lib.hid (executeS s w (by omega))
    have HI := Lib.hid (fun (W : World) (h : LibM W) => executeAll s W (by omega) h)
    obtain ⟨X, hX⟩ : ∃ X : ByteArray, bs (execM s.data.toList) = X := ⟨_, rfl⟩
    rw [hX] at HS
    have HI2 := Lib.hid (fun (W : World) (h : LibM W) => (show Calls Tryz.prog 11 #[.string s] W fun e w' => e = .returned (.string X) ∧ Below W.heap.size W w' from by rw [← hX]; exact HI.out W h))
    clear hbig hX HI
    go_enter Tryz.func3, Tryz.ntmps3
    go_wp2_with fail
    refine (HS.out).mono ?_
    rintro e w1 ⟨rfl, hb1⟩
    have HB1 := Lib.hid hb1
    have HL1 := Lib.hid (HL.out.keep hb1 (Nat.le_refl _))
    clear hb1
    go_wp2_with fail
    refine (HI2.out w1 HL1.out).mono ?_
    rintro e w2 ⟨rfl, hb2⟩
    have HB2 := Lib.hid (HB1.out.trans (hb2.mono HB1.out.size))
    clear hb2
    go_wp2_with fail
    go_ret
    exact ⟨rfl, HB2.out⟩
end Go.Proofs.YtlmlchkolcmhpaaGreatDoor
