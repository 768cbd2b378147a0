/-
  Contract: spec.DrawTableText.
-/
import Derived.Test.YthncpnopplhlkaaDoorDrawTab
namespace Go.Proofs.YthncpnopplhlkaaDoor
open Go.RowKit

/-- A drawn table, the reader forgotten. -/
def TabW (w : World) (e : Ending) (w' : World) : Prop :=
  ∃ (ao : Option Addr) (b cap : Nat) (T : List (List Int)), e = .returned (.slice ao T.length cap) ∧ TabG (Value.int .i64) 0 w' ao b 0 T ∧ T.length ≤ cap ∧ cap ≤ 9223372036854775807 ∧ T.length ≤ 4 ∧
    (∀ i, i < T.length → (T.getD i []).length ≤ 5) ∧ Below w.heap.size w w'
theorem TabG.low {α : Type} {enc : α → Value} {B : Nat} {w : World} {ao : Option Addr} {b off : Nat} {T : List (List α)} (h : TabG enc B w ao b off T) : TabG enc 0 w ao b off T :=
  ⟨h.1, fun i hi => by
    obtain ⟨_, a', b', o', c', _, h1⟩ := h.2 i hi
    exact ⟨Nat.zero_le _, a', b', o', c', Nat.zero_le _, h1⟩⟩

theorem drawTT (ao : Option Addr) (b off cap : Nat) (cs : List Int) (w : World) (hr : Row .u8 w ao b off cs) (hl : cs.length ≤ cap ∧ cap ≤ 9223372036854775807) (hw : ∀ i, i < cs.length → (Lit.int .u8 (cs.getD i 0)).wf = true) :
    Calls Tryd.prog 14 #[.slice ao cs.length cap] w (TabW w) := by
  have HO := Lib.hid (open_any ao b off cap cs w hr hl.1 hw hl.2)
  clear hr hw
  go_enter Tryd.func14, Tryd.ntmps14
  go_wp2_with fail
  refine (HO.out).mono ?_
  rintro e w1 ⟨rfl, hb1, hrd1, hs1⟩
  have HB1 := Lib.hid hb1
  have HR1 := Lib.hid hrd1
  have HS1 := Lib.hid hs1
  clear hb1 hrd1 hs1
  go_wp2_with fail
  refine (tableD w.heap.size 30 0 w1 HR1.out (by omega) (by omega) (by omega)).mono ?_
  rintro e w2 ⟨a2, b2, c2, T, p2, rfl, ht, h1, h2, h3, h4, h5, h6, h7⟩
  have HT := Lib.hid ht
  have H4 := Lib.hid h4
  have H7 := Lib.hid h7
  clear ht h4 h5 h7
  go_wp2_with fail
  go_ret
  exact ⟨a2, b2, c2, T, rfl, HT.out.low, h1, h2, h3, H4.out, HB1.out.trans (H7.out.toBelow (Nat.le_refl _) (by rw [HS1.out]; omega))⟩
end Go.Proofs.YthncpnopplhlkaaDoor
