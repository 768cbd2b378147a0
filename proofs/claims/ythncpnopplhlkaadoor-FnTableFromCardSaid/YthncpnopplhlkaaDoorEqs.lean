/-
  Contracts: laws.eqIntS, eqIntSS, sameInts, sameRows, at equal arguments.
-/
import Derived.Test.YthncpnopplhlkaaDoorTab
import Derived.Deep.RegionWith
namespace Go.Proofs.YthncpnopplhlkaaDoor
open Go.RowKit

set_option maxHeartbeats 1000000 in
theorem eqInts_yes (ao bo : Option Addr) (b off cap c off2 cap2 : Nat) (xs : List Int) (w : World) (hr1 : Row .i64 w ao b off xs) (hr2 : Row .i64 w bo c off2 xs) (hl : xs.length ≤ 9223372036854775807) :
    Calls Tryd.prog 43 #[.slice ao xs.length cap, .slice bo xs.length cap2] w fun e w' => e = .returned (.bool true) ∧ ∃ q, w' = w.drewN q := by
  obtain ⟨ha, hc⟩ := hr1
  obtain ⟨hb, hd⟩ := hr2
  go_enter Tryd.func43, Tryd.ntmps43
  go_wp2
  go_loopw [5] (fun t wr => (∃ k : Nat, k ≤ xs.length ∧ t = .int .i64 k) ∧ ∃ q, wr = w.drewN q) (fun t _ => xs.length - (intOf t).toNat)
  case atStart => exact ⟨⟨0, Nat.zero_le _, rfl⟩, 0, rfl⟩
  case round =>
    obtain ⟨⟨k, hk, rfl⟩, q, rfl⟩ := hrel
    by_cases hlt : k < xs.length
    · obtain rfl := ha (by omega)
      obtain rfl := hb (by omega)
      obtain ⟨x, hx⟩ : ∃ x, xs.getD k 0 = x := ⟨_, rfl⟩
      have hcell := hc k hlt
      have hcell2 := hd k hlt
      rw [hx] at hcell hcell2
      clear hc ha hx hb hd
      go_wp2_with fail
      go_quiet (fail)
      go_wp2
      go_roundw
      case rel => exact ⟨⟨k + 1, by omega, by go_num⟩, _, rfl⟩
      case measure => simp [intOf]; omega
    · go_wp2
      go_ret
      exact ⟨rfl, _, rfl⟩
set_option maxHeartbeats 1000000 in
theorem eqIntss (ao bo : Option Addr) (b off cap c off2 cap2 : Nat) (T : List (List Int)) (w : World) (hr1 : Tab .i64 w ao b off T) (hr2 : Tab .i64 w bo c off2 T) (hl : T.length ≤ 9223372036854775807) :
    Calls Tryd.prog 20 #[.slice ao T.length cap, .slice bo T.length cap2] w fun e w' => e = .returned (.bool true) ∧ ∃ q, w' = w.drewN q := by
  have H1 := Lib.hid hr1
  have H2 := Lib.hid hr2
  clear hr1 hr2
  go_enter Tryd.func20, Tryd.ntmps20
  go_wp2_with fail
  go_loopw [5] (fun t wr => (∃ k : Nat, k ≤ T.length ∧ t = .int .i64 k) ∧ ∃ q, wr = w.drewN q) (fun t _ => T.length - (intOf t).toNat)
  case atStart => exact ⟨⟨0, Nat.zero_le _, rfl⟩, 0, rfl⟩
  case round =>
    obtain ⟨⟨k, hk, rfl⟩, q, rfl⟩ := hrel
    by_cases hlt : k < T.length
    · obtain rfl := H1.out.1 (by omega)
      obtain rfl := H2.out.1 (by omega)
      obtain ⟨a1, b1, o1, c1, g1, g2, g3, g4⟩ := H1.out.2 k hlt
      obtain ⟨a2, b2, o2, c2, k1, k2, k3, k4⟩ := H2.out.2 k hlt
      obtain ⟨r, hrr⟩ : ∃ r, T.getD k [] = r := ⟨_, rfl⟩
      rw [hrr] at g1 g2 g3 k1 k2 k3
      have HG := Lib.hid g2
      have HK := Lib.hid k2
      have hrl : r.length ≤ 9223372036854775807 := by omega
      clear hrr g2 k2
      go_wp2_with fail
      go_quiet ((go_at_call 43; exact quiet_add (eqInts_yes _ _ b1 o1 _ b2 o2 _ r _ (Row.drewN HG.out _) (Row.drewN HK.out _) hrl)))
      go_wp2_with fail
      go_roundw
      case rel => exact ⟨⟨k + 1, by omega, by go_num⟩, _, rfl⟩
      case measure => simp [intOf]; omega
    · go_wp2_with fail
      go_ret
      exact ⟨rfl, _, rfl⟩
set_option maxHeartbeats 1000000 in
theorem sameInts_yes (ao bo : Option Addr) (b off cap c off2 cap2 : Nat) (xs : List Int) (w : World) (hr1 : Row .i64 w ao b off xs) (hr2 : Row .i64 w bo c off2 xs) (hl : xs.length ≤ 9223372036854775807) :
    Calls Tryd.prog 41 #[.slice ao xs.length cap, .slice bo xs.length cap2] w fun e w' => e = .returned (.bool true) ∧ ∃ q, w' = w.drewN q := by
  obtain ⟨ha, hc⟩ := hr1
  obtain ⟨hb, hd⟩ := hr2
  go_enter Tryd.func41, Tryd.ntmps41
  go_wp2
  go_loopw [5] (fun t wr => (∃ k : Nat, k ≤ xs.length ∧ t = .int .i64 k) ∧ ∃ q, wr = w.drewN q) (fun t _ => xs.length - (intOf t).toNat)
  case atStart => exact ⟨⟨0, Nat.zero_le _, rfl⟩, 0, rfl⟩
  case round =>
    obtain ⟨⟨k, hk, rfl⟩, q, rfl⟩ := hrel
    by_cases hlt : k < xs.length
    · obtain rfl := ha (by omega)
      obtain rfl := hb (by omega)
      obtain ⟨x, hx⟩ : ∃ x, xs.getD k 0 = x := ⟨_, rfl⟩
      have hcell := hc k hlt
      have hcell2 := hd k hlt
      rw [hx] at hcell hcell2
      clear hc ha hx hb hd
      go_wp2_with fail
      go_quiet (fail)
      go_wp2
      go_roundw
      case rel => exact ⟨⟨k + 1, by omega, by go_num⟩, _, rfl⟩
      case measure => simp [intOf]; omega
    · go_wp2
      go_ret
      exact ⟨rfl, _, rfl⟩
set_option maxHeartbeats 1000000 in
theorem sameRows_yes (ao bo : Option Addr) (b off cap c off2 cap2 : Nat) (T : List (List Int)) (w : World) (hr1 : Tab .i64 w ao b off T) (hr2 : Tab .i64 w bo c off2 T) (hl : T.length ≤ 9223372036854775807) :
    Calls Tryd.prog 18 #[.slice ao T.length cap, .slice bo T.length cap2] w fun e w' => e = .returned (.bool true) ∧ ∃ q, w' = w.drewN q := by
  have H1 := Lib.hid hr1
  have H2 := Lib.hid hr2
  clear hr1 hr2
  go_enter Tryd.func18, Tryd.ntmps18
  go_wp2_with fail
  go_loopw [5] (fun t wr => (∃ k : Nat, k ≤ T.length ∧ t = .int .i64 k) ∧ ∃ q, wr = w.drewN q) (fun t _ => T.length - (intOf t).toNat)
  case atStart => exact ⟨⟨0, Nat.zero_le _, rfl⟩, 0, rfl⟩
  case round =>
    obtain ⟨⟨k, hk, rfl⟩, q, rfl⟩ := hrel
    by_cases hlt : k < T.length
    · obtain rfl := H1.out.1 (by omega)
      obtain rfl := H2.out.1 (by omega)
      obtain ⟨a1, b1, o1, c1, g1, g2, g3, g4⟩ := H1.out.2 k hlt
      obtain ⟨a2, b2, o2, c2, k1, k2, k3, k4⟩ := H2.out.2 k hlt
      obtain ⟨r, hrr⟩ : ∃ r, T.getD k [] = r := ⟨_, rfl⟩
      rw [hrr] at g1 g2 g3 k1 k2 k3
      have HG := Lib.hid g2
      have HK := Lib.hid k2
      have hrl : r.length ≤ 9223372036854775807 := by omega
      clear hrr g2 k2
      go_wp2_with fail
      go_quiet ((go_at_call 41; exact quiet_add (sameInts_yes _ _ b1 o1 _ b2 o2 _ r _ (Row.drewN HG.out _) (Row.drewN HK.out _) hrl)))
      go_wp2_with fail
      go_roundw
      case rel => exact ⟨⟨k + 1, by omega, by go_num⟩, _, rfl⟩
      case measure => simp [intOf]; omega
    · go_wp2_with fail
      go_ret
      exact ⟨rfl, _, rfl⟩
end Go.Proofs.YthncpnopplhlkaaDoor
