/-
  Contracts: spec.DrawAskValid, spec.DrawAskRank.
-/
import Derived.Test.YtjglikccikeejaaDrawL
namespace Go.Proofs.Ytjglikccikeejaa
open Go.RowKit

theorem drawValid_any (ao : Option Addr) (b off cap : Nat) (cs : List Int) (w : World) (hr : Row .u8 w ao b off cs) (hl : cs.length ≤ cap) (hw : ∀ i, i < cs.length → (Lit.int .u8 (cs.getD i 0)).wf = true) (hl2 : cap ≤ 9223372036854775807) :
    Calls Try.prog 15 #[.slice ao cs.length cap] w (DrawnL w) := by
  go_enter Try.func15, Try.ntmps15
  go_wp2_with fail
  refine (open_any ao b off cap cs w hr hl hw hl2).mono ?_
  rintro e w1 ⟨rfl, hb1, hrd1, hs1⟩
  go_wp2_with fail
  refine (questions_any w.heap.size 0 w1 hrd1 (by omega)).mono ?_
  rintro e w2 ⟨n, p', v, zs, rfl, h0, h7, hzl, hzb, hO, hR, hp, hF⟩
  go_wp2_with fail
  go_ret2
  exact ⟨n, v, zs, rfl, by omega, hO.mono (by omega), hb1.trans (hF.toBelow (Nat.le_refl _) (by omega))⟩

theorem drawRank_any (ao : Option Addr) (b off cap : Nat) (cs : List Int) (w : World) (hr : Row .u8 w ao b off cs) (hl : cs.length ≤ cap) (hw : ∀ i, i < cs.length → (Lit.int .u8 (cs.getD i 0)).wf = true) (hl2 : cap ≤ 9223372036854775807) :
    Calls Try.prog 23 #[.slice ao cs.length cap] w (DrawnL w) := by
  go_enter Try.func23, Try.ntmps23
  go_wp2_with fail
  refine (open_any ao b off cap cs w hr hl hw hl2).mono ?_
  rintro e w1 ⟨rfl, hb1, hrd1, hs1⟩
  go_wp2_with fail
  refine (questions_any w.heap.size 0 w1 hrd1 (by omega)).mono ?_
  rintro e w2 ⟨n, p', v, zs, rfl, h0, h7, hzl, hzb, hO, hR, hp, hF⟩
  go_wp2_with fail
  go_ret2
  exact ⟨n, v, zs, rfl, by omega, hO.mono (by omega), hb1.trans (hF.toBelow (Nat.le_refl _) (by omega))⟩
end Go.Proofs.Ytjglikccikeejaa
