/-
  Contracts: laws.toBoolS, laws.eqBoolS.
-/
import Derived.Test.YtgnmfbgoacfjeaaDoorTabB
namespace Go.Proofs.YtgnmfbgoacfjeaaDoor
open Go.RowKit

set_option maxHeartbeats 400000 in
theorem toBools_any (ao : Option Addr) (b off cap : Nat) (xs : List Bool) (w : World) (hr : RowB w ao b off xs) (hl : xs.length * 8 ≤ 140737488351232) :
    Calls Tryd.prog 55 #[.slice ao xs.length cap] w fun e w' => e = .returned (.slice (some ⟨w.heap.size, 0, none⟩) xs.length xs.length) ∧ Below w.heap.size w w' ∧
      w'.rowIs w.heap.size 4 xs.length (fun i => .bool (xs.getD i false)) ∧ w'.heap.size = w.heap.size + 1 := by
  obtain ⟨ha, hc⟩ := hr
  have hmk := run_make_row' (P := Tryd.prog) 47 4 (.bool false) 1 Tryd.underlying47 (by kernel_rfl) rfl .i64 .i64 xs.length (by omega) (by omega)
  go_enter Tryd.func55, Tryd.ntmps55
  go_wp2
  clear hmk
  go_loopw [4] (fun t wr => ∃ k : Nat, k ≤ xs.length ∧ t = .int .i64 k ∧ Below w.heap.size w wr ∧ wr.rowIs w.heap.size 4 xs.length (fun i => .bool (if i < k then xs.getD i false else false)) ∧ wr.heap.size = w.heap.size + 1) (fun t _ => xs.length - (intOf t).toNat)
  case atStart => exact ⟨0, Nat.zero_le _, rfl, (Below.refl _ _).alloc (Nat.le_refl _) _, (World.rowIs_made w _ _ _).congr (fun i _ => by simp), by simp⟩
  case round =>
    obtain ⟨k, hk, rfl, hb, hrow, hsz⟩ := hrel
    by_cases hlt : k < xs.length
    · obtain rfl := ha (by omega)
      obtain ⟨x, hx⟩ : ∃ x, xs.getD k false = x := ⟨_, rfl⟩
      have hcell0 := hc k hlt
      have hbw := World.block_lt_of_cell? _ _ hcell0
      have hcell : wr.cell? ⟨b, off + k, none⟩ = some (.bool x) := by rw [hb.cell (p := ⟨b, off + k, none⟩) hbw, ← hx]; exact hcell0
      have hcd := hrow.cell hlt
      have hfd := hrow.frozen k
      rw [if_neg (Nat.lt_irrefl k)] at hcd
      have Hx := Lib.hid hx
      have Hb := Lib.hid hb
      have Hr := Lib.hid hrow
      have Hs := Lib.hid hsz
      clear hc ha hx hb hrow hsz hcell0
      go_wp2
      go_roundw
      case rel =>
        refine ⟨k + 1, by omega, by go_num, Hb.out.setCell (Nat.le_refl _) _, (Hr.out.set k _).congr (fun i hi => ?_), by rw [← Hs.out]; simp [World.setCell]⟩
        by_cases e : i = k
        · subst e; rw [if_pos rfl, if_pos (by omega), Hx.out]
        · rw [if_neg e]
          by_cases h2 : i < k
          · rw [if_pos h2, if_pos (by omega)]
          · rw [if_neg h2, if_neg (by omega)]
      case measure => simp [intOf]; omega
    · have Hb := Lib.hid hb
      have Hr := Lib.hid hrow
      have Hs := Lib.hid hsz
      clear hc ha hb hrow hsz
      go_wp2
      go_ret
      exact ⟨rfl, Hb.out, Hr.out.congr (fun i hi => by rw [if_pos (by omega)]), Hs.out⟩

set_option maxHeartbeats 400000 in
theorem eqBools_yes (ao bo : Option Addr) (b off cap c off2 cap2 : Nat) (xs : List Bool) (w : World) (hr1 : RowB w ao b off xs) (hr2 : RowB w bo c off2 xs) (hl : xs.length ≤ 9223372036854775807) :
    Calls Tryd.prog 56 #[.slice ao xs.length cap, .slice bo xs.length cap2] w fun e w' => e = .returned (.bool true) ∧ ∃ q, w' = w.drewN q := by
  obtain ⟨ha, hc⟩ := hr1
  obtain ⟨hb, hd⟩ := hr2
  go_enter Tryd.func56, Tryd.ntmps56
  go_wp2
  go_loopw [5] (fun t wr => (∃ k : Nat, k ≤ xs.length ∧ t = .int .i64 k) ∧ ∃ q, wr = w.drewN q) (fun t _ => xs.length - (intOf t).toNat)
  case atStart => exact ⟨⟨0, Nat.zero_le _, rfl⟩, 0, rfl⟩
  case round =>
    obtain ⟨⟨k, hk, rfl⟩, q, rfl⟩ := hrel
    by_cases hlt : k < xs.length
    · obtain rfl := ha (by omega)
      obtain rfl := hb (by omega)
      obtain ⟨x, hx⟩ : ∃ x, xs.getD k false = x := ⟨_, rfl⟩
      have hcell := hc k hlt
      have hcell2 := hd k hlt
      rw [hx] at hcell hcell2
      clear hc ha hx hb hd
      go_wp2_with fail
      go_quiet (fail)
      go_wp2
      go_roundw
      case rel => exact ⟨⟨k + 1, by omega, by go_num⟩, _, rfl⟩
      case measure => simp [intOf]; omega
    · go_wp2
      go_ret
      exact ⟨rfl, _, rfl⟩
end Go.Proofs.YtgnmfbgoacfjeaaDoor
