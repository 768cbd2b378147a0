/-
  Contracts: laws.toIntS, laws.eqIntS.
-/
import Derived.Test.YtgnmfbgoacfjeaaDoorBase
namespace Go.Proofs.YtgnmfbgoacfjeaaDoor
open Go.RowKit

set_option maxHeartbeats 400000 in
theorem toInts_any (ao : Option Addr) (b off cap : Nat) (xs : List Int) (w : World) (hr : Row .i64 w ao b off xs) (hl : xs.length * 8 ≤ 140737488351232) :
    Calls Tryd.prog 45 #[.slice ao xs.length cap] w fun e w' => e = .returned (.slice (some ⟨w.heap.size, 0, none⟩) xs.length xs.length) ∧ Below w.heap.size w w' ∧
      w'.rowIs w.heap.size 3 xs.length (fun i => .int .i64 (xs.getD i 0)) ∧ w'.heap.size = w.heap.size + 1 := by
  obtain ⟨ha, hc⟩ := hr
  have hmk := run_make_row' (P := Tryd.prog) 46 3 (.int .i64 0) 8 Tryd.underlying46 Tryd.info3 rfl .i64 .i64 xs.length (by omega) (by omega)
  go_enter Tryd.func45, Tryd.ntmps45
  go_wp2
  clear hmk
  go_loopw [4] (fun t wr => ∃ k : Nat, k ≤ xs.length ∧ t = .int .i64 k ∧ Below w.heap.size w wr ∧ wr.rowIs w.heap.size 3 xs.length (fun i => .int .i64 (if i < k then xs.getD i 0 else 0)) ∧ wr.heap.size = w.heap.size + 1) (fun t _ => xs.length - (intOf t).toNat)
  case atStart => exact ⟨0, Nat.zero_le _, rfl, (Below.refl _ _).alloc (Nat.le_refl _) _, (World.rowIs_made w _ _ _).congr (fun i _ => by simp), by simp⟩
  case round =>
    obtain ⟨k, hk, rfl, hb, hrow, hsz⟩ := hrel
    by_cases hlt : k < xs.length
    · obtain rfl := ha (by omega)
      obtain ⟨x, hx⟩ : ∃ x, xs.getD k 0 = x := ⟨_, rfl⟩
      have hcell0 := hc k hlt
      have hbw := World.block_lt_of_cell? _ _ hcell0
      have hcell : wr.cell? ⟨b, off + k, none⟩ = some (.int .i64 x) := by rw [hb.cell (p := ⟨b, off + k, none⟩) hbw, ← hx]; exact hcell0
      have hcd := hrow.cell hlt
      have hfd := hrow.frozen k
      rw [if_neg (Nat.lt_irrefl k)] at hcd
      have Hx := Lib.hid hx
      have Hb := Lib.hid hb
      have Hr := Lib.hid hrow
      have Hs := Lib.hid hsz
      clear hc ha hx hb hrow hsz hcell0
      go_wp2
      go_roundw
      case rel =>
        refine ⟨k + 1, by omega, by go_num, Hb.out.setCell (Nat.le_refl _) _, (Hr.out.set k _).congr (fun i hi => ?_), by rw [← Hs.out]; simp [World.setCell]⟩
        by_cases e : i = k
        · subst e; rw [if_pos rfl, if_pos (by omega), Hx.out]
        · rw [if_neg e]
          by_cases h2 : i < k
          · rw [if_pos h2, if_pos (by omega)]
          · rw [if_neg h2, if_neg (by omega)]
      case measure => simp [intOf]; omega
    · have Hb := Lib.hid hb
      have Hr := Lib.hid hrow
      have Hs := Lib.hid hsz
      clear hc ha hb hrow hsz
      go_wp2
      go_ret
      exact ⟨rfl, Hb.out, Hr.out.congr (fun i hi => by rw [if_pos (by omega)]), Hs.out⟩

set_option maxHeartbeats 400000 in
theorem eqInts_yes (ao bo : Option Addr) (b off cap c off2 cap2 : Nat) (xs : List Int) (w : World) (hr1 : Row .i64 w ao b off xs) (hr2 : Row .i64 w bo c off2 xs) (hl : xs.length ≤ 9223372036854775807) :
    Calls Tryd.prog 46 #[.slice ao xs.length cap, .slice bo xs.length cap2] w fun e w' => e = .returned (.bool true) ∧ ∃ q, w' = w.drewN q := by
  obtain ⟨ha, hc⟩ := hr1
  obtain ⟨hb, hd⟩ := hr2
  go_enter Tryd.func46, Tryd.ntmps46
  go_wp2
  go_loopw [5] (fun t wr => (∃ k : Nat, k ≤ xs.length ∧ t = .int .i64 k) ∧ ∃ q, wr = w.drewN q) (fun t _ => xs.length - (intOf t).toNat)
  case atStart => exact ⟨⟨0, Nat.zero_le _, rfl⟩, 0, rfl⟩
  case round =>
    obtain ⟨⟨k, hk, rfl⟩, q, rfl⟩ := hrel
    by_cases hlt : k < xs.length
    · obtain rfl := ha (by omega)
      obtain rfl := hb (by omega)
      obtain ⟨x, hx⟩ : ∃ x, xs.getD k 0 = x := ⟨_, rfl⟩
      have hcell := hc k hlt
      have hcell2 := hd k hlt
      rw [hx] at hcell hcell2
      clear hc ha hx hb hd
      go_wp2_with fail
      go_quiet (fail)
      go_wp2
      go_roundw
      case rel => exact ⟨⟨k + 1, by omega, by go_num⟩, _, rfl⟩
      case measure => simp [intOf]; omega
    · go_wp2
      go_ret
      exact ⟨rfl, _, rfl⟩
end Go.Proofs.YtgnmfbgoacfjeaaDoor
