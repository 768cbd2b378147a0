/-
  Contract: laws.samePeople of people against themselves.
-/
import Derived.Test.YtcjhenfofekofaaGreatDoorJ1
import Derived.BigQuiet
namespace Go.Proofs.YtcjhenfofekofaaGreatDoor
open Go.RowKit

set_option maxHeartbeats 1000000 in
theorem samePpl_yes (ao bo : Option Addr) (b off cap c off2 cap2 : Nat) (L : List Per) (w : World) (hr1 : Ppl w ao b off L) (hr2 : Ppl w bo c off2 L) (hl : L.length ≤ 9223372036854775807) :
    Calls Tryz.prog 22 #[.slice ao L.length cap, .slice bo L.length cap2] w fun e w' => e = .returned (.bool true) ∧ ∃ q, w' = w.drewN q := by
  have H1 := Lib.hid hr1
  have H2 := Lib.hid hr2
  clear hr1 hr2
  go_enter Tryz.func22, Tryz.ntmps22
  go_wp2_with fail
  go_loopw [5] (fun t wr => (∃ k : Nat, k ≤ L.length ∧ t = .int .i64 k) ∧ ∃ q, wr = w.drewN q) (fun t _ => L.length - (intOf t).toNat)
  case atStart => exact ⟨⟨0, Nat.zero_le _, rfl⟩, 0, rfl⟩
  case round =>
    obtain ⟨⟨k, hk, rfl⟩, q, rfl⟩ := hrel
    by_cases hlt : k < L.length
    · have h1 := H1.out.2 k hlt
      have h2 := H2.out.2 k hlt
      obtain rfl := H1.out.1 (by omega)
      obtain rfl := H2.out.1 (by omega)
      obtain ⟨p, hp⟩ : ∃ p, L.getD k per0 = p := ⟨_, rfl⟩
      rw [hp] at h1 h2
      clear hp
      obtain ⟨a, j, s, y⟩ := p
      obtain ⟨c0, c1, c2, c3⟩ := h1
      obtain ⟨d0, d1, d2, d3⟩ := h2
      simp only at c0 c1 c2 c3 d0 d1 d2 d3
      go_wp2_with fail
      go_quiet (fail)
      go_wp2
      go_roundw
      case rel => exact ⟨⟨k + 1, by omega, by go_num⟩, _, rfl⟩
      case measure => simp [intOf]; omega
    · go_wp2_with fail
      go_ret
      exact ⟨rfl, _, rfl⟩
end Go.Proofs.YtcjhenfofekofaaGreatDoor
