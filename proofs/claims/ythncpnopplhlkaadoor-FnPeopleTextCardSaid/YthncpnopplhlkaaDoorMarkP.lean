/-
  Contracts: laws.markPersonS, laws.heldPersonS: consecutive numbers are written into the persons' cells, and found there.
-/
import Derived.Test.YthncpnopplhlkaaDoorMark
import Derived.Test.YthncpnopplhlkaaDoorDrawPpl
namespace Go.Proofs.YthncpnopplhlkaaDoor
open Go.RowKit

/-- A block of people. -/
def PplN (w : World) (b n : Nat) : Prop := ∃ c f, w.rowIs b 47 c f ∧ n * 4 ≤ c
/-- .. with numbers from k on. -/
def PplK (w : World) (b n k : Nat) : Prop := ∃ c f, w.rowIs b 47 c f ∧ n * 4 ≤ c ∧ ∀ j, j < n * 4 → f j = .int .i64 ((k + j : Nat) : Int)
theorem PplN.of_block {w w' : World} {b n : Nat} (h : PplN w b n) (e : w'.heap[b]? = w.heap[b]?) : PplN w' b n := by obtain ⟨c, f, h1, h2⟩ := h; exact ⟨c, f, h1.of_block e, h2⟩
theorem PplK.of_block {w w' : World} {b n k : Nat} (h : PplK w b n k) (e : w'.heap[b]? = w.heap[b]?) : PplK w' b n k := by obtain ⟨c, f, h1, h2⟩ := h; exact ⟨c, f, h1.of_block e, h2⟩
theorem PplK.lt {w : World} {b n k : Nat} (h : PplK w b n k) : b < w.heap.size := by obtain ⟨c, f, h1, _⟩ := h; exact h1.lt
theorem four_put {W : World} {b c q z : Nat} {f : Nat → Value} (h : W.rowIs b 47 c f) :
    ((((W.setCell ⟨b, q * 4, none⟩ (.int .i64 (z : Int))).setCell ⟨b, q * 4 + 1, none⟩ (.int .i64 ((z : Int) + 1))).setCell ⟨b, q * 4 + 2, none⟩ (.int .i64 ((z : Int) + 1 + 1))).setCell ⟨b, q * 4 + 3, none⟩ (.int .i64 ((z : Int) + 1 + 1 + 1))).rowIs b 47 c
      (fun j => if j / 4 = q then .int .i64 ((z + (j - q * 4) : Nat) : Int) else f j) := by
  refine ((((h.set _ _).set _ _).set _ _).set _ _).congr fun i _ => ?_
  by_cases hq : i / 4 = q
  · have hr : i = q * 4 ∨ i = q * 4 + 1 ∨ i = q * 4 + 2 ∨ i = q * 4 + 3 := by omega
    rw [if_pos hq]
    rcases hr with hr | hr | hr | hr
    · rw [if_neg (by omega), if_neg (by omega), if_neg (by omega), if_pos (by omega)]
      exact int_eq (by omega)
    · rw [if_neg (by omega), if_neg (by omega), if_pos (by omega)]
      exact int_eq (by omega)
    · rw [if_neg (by omega), if_pos (by omega)]
      exact int_eq (by omega)
    · rw [if_pos (by omega)]
      exact int_eq (by omega)
  · rw [if_neg (by omega), if_neg (by omega), if_neg (by omega), if_neg (by omega), if_neg hq]

set_option maxHeartbeats 2000000 in
theorem markP (ao : Option Addr) (b n c0 k : Nat) (w : World) (ha : 0 < n → ao = some ⟨b, 0, none⟩) (hr : 0 < n → PplN w b n) (hn : n ≤ 1000) (hk : k ≤ 1000) :
    Calls Tryd.prog 25 #[.slice ao n c0, .int .i64 k] w fun e w' => e = .returned (.int .i64 ((k + n * 4 : Nat) : Int)) ∧ (0 < n → PplK w' b n k) ∧ Only b w w' ∧ (n = 0 → w' = w) := by
  by_cases h0 : n = 0
  · subst h0
    go_enter Tryd.func25, Tryd.ntmps25
    go_wp2_with fail
    go_loopw [1, 5] (fun x i wr => i = .int .i64 0 ∧ x = .int .i64 (k : Int) ∧ wr = w) (fun _ _ _ => 0)
    case atStart => exact ⟨rfl, rfl, rfl⟩
    case round =>
      obtain ⟨rfl, rfl, rfl⟩ := hrel
      go_wp2_with fail
      go_ret
      exact ⟨by simp, fun h => absurd h (by omega), ⟨rfl, rfl, rfl, rfl, fun _ _ => rfl⟩, fun _ => rfl⟩
  · obtain rfl := ha (by omega)
    obtain ⟨c, f, hrow, hnc⟩ := hr (by omega)
    have HR := Lib.hid hrow
    have hp0 : 0 < n := by omega
    clear hrow ha hr h0
    go_enter Tryd.func25, Tryd.ntmps25
    go_wp2_with fail
    go_loopw [1, 5] (fun x i wr => ∃ q : Nat, q ≤ n ∧ i = .int .i64 q ∧ x = .int .i64 ((k + q * 4 : Nat) : Int) ∧ wr.rowIs b 47 c (fun j => if j < q * 4 then .int .i64 ((k + j : Nat) : Int) else f j) ∧ Only b w wr) (fun _ i _ => n - (intOf i).toNat)
    case atStart => exact ⟨0, Nat.zero_le _, rfl, rfl, HR.out.congr fun j _ => by rw [if_neg (by omega)], ⟨rfl, rfl, rfl, rfl, fun _ _ => rfl⟩⟩
    case round =>
      obtain ⟨q, hq, rfl, rfl, hrow, ho⟩ := hrel
      have HW := Lib.hid hrow
      have HO := Lib.hid ho
      clear hrow ho
      by_cases hlt : q < n
      · have hc := HW.out.cell (i := q * 4) (by omega)
        have hf := HW.out.frozen (q * 4)
        obtain ⟨z, hz⟩ : ∃ z, k + q * 4 = z := ⟨_, rfl⟩
        have hz0 : z ≤ 10000 := by omega
        rw [if_neg (Nat.lt_irrefl _)] at hc
        rw [hz]
        have hqi : (q : Int) < (n : Int) := by omega
        have w1 : IntKind.i64.wrap ((z : Int) + 1) = (z : Int) + 1 := IntWalk.i64_in _ ⟨by omega, by omega⟩
        have w2 : IntKind.i64.wrap ((z : Int) + 1 + 1) = (z : Int) + 1 + 1 := IntWalk.i64_in _ ⟨by omega, by omega⟩
        have w3 : IntKind.i64.wrap ((z : Int) + 1 + 1 + 1) = (z : Int) + 1 + 1 + 1 := IntWalk.i64_in _ ⟨by omega, by omega⟩
        have w4 : IntKind.i64.wrap ((z : Int) + 1 + 1 + 1 + 1) = (z : Int) + 1 + 1 + 1 + 1 := IntWalk.i64_in _ ⟨by omega, by omega⟩
        have r1 := HW.out.set (q * 4) (.int .i64 (z : Int))
        have c1 := r1.cell (i := q * 4 + 1) (by omega)
        have d1 := r1.frozen (q * 4 + 1)
        have r2 := r1.set (q * 4 + 1) (.int .i64 ((z : Int) + 1))
        have c2 := r2.cell (i := q * 4 + 2) (by omega)
        have d2 := r2.frozen (q * 4 + 2)
        have r3 := r2.set (q * 4 + 2) (.int .i64 ((z : Int) + 1 + 1))
        have c3 := r3.cell (i := q * 4 + 3) (by omega)
        have d3 := r3.frozen (q * 4 + 3)
        clear r1 r2 r3
        go_wp2_with fail
        go_roundw
        case rel =>
          refine ⟨q + 1, by omega, by go_num, by go_num, (four_put HW.out).congr fun j _ => ?_, ?_⟩
          · by_cases e : j / 4 = q
            · rw [if_pos e, if_pos (by omega)]; exact int_eq (by omega)
            · rw [if_neg e]
              by_cases e2 : j < q * 4
              · rw [if_pos e2, if_pos (by omega)]
              · rw [if_neg e2, if_neg (by omega)]
          · obtain ⟨o1, o2, o3, o4, o5⟩ := HO.out
            exact ⟨o1, o2, o3, by simp only [World.size_setCell]; exact o4, fun j hj => by rw [Below.heap_setCell _ _ _ _ hj, Below.heap_setCell _ _ _ _ hj, Below.heap_setCell _ _ _ _ hj, Below.heap_setCell _ _ _ _ hj]; exact o5 j hj⟩
        case measure => simp [intOf]; omega
      · obtain rfl : q = n := by omega
        go_wp2_with fail
        go_ret
        exact ⟨rfl, fun _ => ⟨c, _, HW.out, hnc, fun j hj => by rw [if_pos hj]⟩, HO.out, fun h => absurd h (by omega)⟩

set_option maxHeartbeats 2000000 in
theorem heldP (ao : Option Addr) (b n c0 k : Nat) (w : World) (ha : 0 < n → ao = some ⟨b, 0, none⟩) (hr : 0 < n → PplK w b n k) (hn : n ≤ 1000) (hk : k ≤ 1000) :
    Calls Tryd.prog 26 #[.slice ao n c0, .int .i64 k] w fun e w' => e = .returned (.int .i64 ((k + n * 4 : Nat) : Int)) ∧ w = w' := by
  have HA := Lib.hid ha
  have HK := Lib.hid hr
  clear ha hr
  go_enter Tryd.func26, Tryd.ntmps26
  go_wp2_with fail
  go_loop [1, 5] (fun x i => ∃ q : Nat, q ≤ n ∧ i = .int .i64 q ∧ x = .int .i64 ((k + q * 4 : Nat) : Int)) (fun _ i => n - (intOf i).toNat)
  case atStart => exact ⟨0, Nat.zero_le _, rfl, rfl⟩
  case round =>
    obtain ⟨q, hq, rfl, rfl⟩ := hrel
    by_cases hlt : q < n
    · obtain rfl := HA.out (by omega)
      obtain ⟨c, f, hrow, hnc, hf⟩ := HK.out (by omega)
      have c0' := hrow.cell (i := q * 4) (by omega)
      have c1 := hrow.cell (i := q * 4 + 1) (by omega)
      have c2 := hrow.cell (i := q * 4 + 2) (by omega)
      have c3 := hrow.cell (i := q * 4 + 3) (by omega)
      rw [hf _ (by omega)] at c0' c1 c2 c3
      obtain ⟨z, hz⟩ : ∃ z, k + q * 4 = z := ⟨_, rfl⟩
      have hz0 : z ≤ 10000 := by omega
      rw [show k + q * 4 = z from hz] at c0'
      rw [show k + (q * 4 + 1) = z + 1 by omega, Int.natCast_add] at c1
      rw [show k + (q * 4 + 2) = z + 1 + 1 by omega, Int.natCast_add, Int.natCast_add] at c2
      rw [show k + (q * 4 + 3) = z + 1 + 1 + 1 by omega, Int.natCast_add, Int.natCast_add, Int.natCast_add] at c3
      simp only [Int.cast_ofNat_Int] at c1 c2 c3
      rw [hz]
      have hqi : (q : Int) < (n : Int) := by omega
      have w1 : IntKind.i64.wrap ((z : Int) + 1) = (z : Int) + 1 := IntWalk.i64_in _ ⟨by omega, by omega⟩
      have w2 : IntKind.i64.wrap ((z : Int) + 1 + 1) = (z : Int) + 1 + 1 := IntWalk.i64_in _ ⟨by omega, by omega⟩
      have w3 : IntKind.i64.wrap ((z : Int) + 1 + 1 + 1) = (z : Int) + 1 + 1 + 1 := IntWalk.i64_in _ ⟨by omega, by omega⟩
      have w4 : IntKind.i64.wrap ((z : Int) + 1 + 1 + 1 + 1) = (z : Int) + 1 + 1 + 1 + 1 := IntWalk.i64_in _ ⟨by omega, by omega⟩
      clear hrow hf
      go_wp2_with fail
      go_round
      case rel => exact ⟨q + 1, by omega, by go_num, by go_num⟩
      case measure => simp [intOf]; omega
    · obtain rfl : q = n := by omega
      go_wp2_with fail
      go_ret
      exact ⟨rfl, rfl⟩
end Go.Proofs.YthncpnopplhlkaaDoor
