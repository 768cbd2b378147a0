/-
  Contracts: spec.l13Cell, spec.l13Open.
-/
import Derived.Test.YtlmlchkolcmhpaaGreatDoorJ5
import Derived.Test.YtlmlchkolcmhpaaGreatDoorJ3
import Derived.Test.YtlmlchkolcmhpaaGreatDoorJ4
import Derived.Test.YtlmlchkolcmhpaaGreatDoorJ1
import Derived.IntWalk
namespace Go.Proofs.YtlmlchkolcmhpaaGreatDoor
open Go.RowKit
open Go.TextMath (tvB mvB)

/-- A table of h rows of q cells. -/
structure Rect {α : Type} (X : List (List α)) (h q : Nat) : Prop where
  len : X.length = h
  row : ∀ k, k < h → (X.getD k []).length = q

theorem Rect.cellI {X : List (List Int)} {h q tb : Nat} (R : Rect X h q) {w : World} (hr : Tab .i64 w (some ⟨tb, 0, none⟩) tb 0 X) {i j : Nat} (hi : i < h) (hj : j < q) :
    ∃ b o c, w.cell? ⟨tb, i, none⟩ = some (.slice (some ⟨b, o, none⟩) q c) ∧ w.cell? ⟨b, o + j, none⟩ = some (.int .i64 (cellT X i j)) ∧ q ≤ c ∧ tb < w.heap.size ∧ b < w.heap.size := by
  obtain ⟨a', b', o', c', h1, h2, h3, -⟩ := hr.2 i (by rw [R.len]; exact hi)
  rw [R.row i hi, Nat.zero_add] at h1
  rw [R.row i hi] at h3
  have hj' : j < (X.getD i []).length := by rw [R.row i hi]; exact hj
  obtain rfl := h2.1 (by omega)
  have h4 := h2.2 j hj'
  exact ⟨b', o', c', h1, h4, h3, World.block_lt_of_cell? _ _ h1, World.block_lt_of_cell? _ _ h4⟩
theorem Rect.cellB {M : List (List Bool)} {h q mb : Nat} (R : Rect M h q) {w : World} (hm : TabB w (some ⟨mb, 0, none⟩) mb 0 M) {i j : Nat} (hi : i < h) (hj : j < q) :
    ∃ b o c, w.cell? ⟨mb, i, none⟩ = some (.slice (some ⟨b, o, none⟩) q c) ∧ w.cell? ⟨b, o + j, none⟩ = some (.bool (flagM M i j)) ∧ q ≤ c ∧ mb < w.heap.size ∧ b < w.heap.size := by
  obtain ⟨a', b', o', c', h1, h2, h3, -⟩ := hm.2 i (by rw [R.len]; exact hi)
  rw [R.row i hi, Nat.zero_add] at h1
  rw [R.row i hi] at h3
  have hj' : j < (M.getD i []).length := by rw [R.row i hi]; exact hj
  obtain rfl := h2.1 (by omega)
  have h4 := h2.2 j hj'
  exact ⟨b', o', c', h1, h4, h3, World.block_lt_of_cell? _ _ h1, World.block_lt_of_cell? _ _ h4⟩

set_option maxHeartbeats 1000000 in
theorem cellS (h x l : Nat) (hx : x < h) (hl : h + l ≤ 1000) (w : World) : Calls Tryz.prog 187 #[.int .i64 (h : Int), .int .i64 (x : Int), .int .i64 (((h + l : Nat)) : Int)] w fun e w' => e = .returned (.tuple #[.int .i64 (x : Int), .int .i64 (l : Int)]) ∧ w = w' := by
  have h1 : (x : Int) < ((h + l : Nat) : Int) := by omega
  have h2 : IntKind.i64.wrap (((h + l : Nat) : Int) - (h : Int)) = (l : Int) := by
    rw [show ((h + l : Nat) : Int) - (h : Int) = (l : Int) by omega]
    exact IntWalk.i64_in _ ⟨by omega, by omega⟩
  have h3 : (h : Int) + (l : Int) - (h : Int) = (l : Int) := by omega
  have h4 : min (x : Int) ((h : Int) + (l : Int)) = (x : Int) := by omega
  have h5 : max (x : Int) ((h : Int) + (l : Int)) = (h : Int) + (l : Int) := by omega
  go_enter Tryz.func187, Tryz.ntmps187
  go_wp2_with fail
  go_ret2
  exact ⟨rfl, rfl⟩
set_option maxHeartbeats 1000000 in
theorem cellS' (h x l : Nat) (hx : x < h) (hl : h + l ≤ 1000) (w : World) : Calls Tryz.prog 187 #[.int .i64 (h : Int), .int .i64 (((h + l : Nat)) : Int), .int .i64 (x : Int)] w fun e w' => e = .returned (.tuple #[.int .i64 (x : Int), .int .i64 (l : Int)]) ∧ w = w' := by
  have h1 : (x : Int) < ((h + l : Nat) : Int) := by omega
  have h2 : IntKind.i64.wrap (((h + l : Nat) : Int) - (h : Int)) = (l : Int) := by
    rw [show ((h + l : Nat) : Int) - (h : Int) = (l : Int) by omega]
    exact IntWalk.i64_in _ ⟨by omega, by omega⟩
  have h3 : (h : Int) + (l : Int) - (h : Int) = (l : Int) := by omega
  have h4 : min ((h : Int) + (l : Int)) (x : Int) = (x : Int) := by omega
  have h5 : max ((h : Int) + (l : Int)) (x : Int) = (h : Int) + (l : Int) := by omega
  go_enter Tryz.func187, Tryz.ntmps187
  go_wp2_with fail
  go_ret2
  exact ⟨rfl, rfl⟩

set_option maxHeartbeats 2000000 in
/-- A step between two rows, or two columns. -/
theorem openS_same (ta ma : Option Addr) (h ct cm u v : Nat) (raise : Bool) (hs : (u < h ∧ v < h) ∨ (h ≤ u ∧ h ≤ v)) (w : World) : Calls Tryz.prog 191 #[.slice ta h ct, .slice ma h cm, .int .i64 (u : Int), .int .i64 (v : Int), .bool raise] w fun e w' => e = .returned (.bool false) ∧ w = w' := by
  rcases hs with ⟨h1, h2⟩ | ⟨h1, h2⟩
  · have h1' : (u : Int) < (h : Int) := by omega
    have h2' : (v : Int) < (h : Int) := by omega
    go_enter Tryz.func191, Tryz.ntmps191
    go_wp2_with fail
    go_ret
    exact ⟨rfl, rfl⟩
  · have h1' : ¬ (u : Int) < (h : Int) := by omega
    have h2' : ¬ (v : Int) < (h : Int) := by omega
    go_enter Tryz.func191, Tryz.ntmps191
    go_wp2_with fail
    go_ret
    exact ⟨rfl, rfl⟩

set_option maxHeartbeats 2000000 in
/-- A step from a row to a column. -/
theorem openS_row (tb ct : Nat) (X : List (List Int)) (mb cm : Nat) (M : List (List Bool)) (h q a l : Nat) (raise : Bool) (w : World) (RX : Rect X h q) (RM : Rect M h q) (hr : Tab .i64 w (some ⟨tb, 0, none⟩) tb 0 X) (hm : TabB w (some ⟨mb, 0, none⟩) mb 0 M) (ha : a < h) (hl : l < q) (hh : h ≤ 4) (hq : q ≤ 4) :
    Calls Tryz.prog 191 #[.slice (some ⟨tb, 0, none⟩) h ct, .slice (some ⟨mb, 0, none⟩) h cm, .int .i64 (a : Int), .int .i64 (((h + l : Nat)) : Int), .bool raise] w fun e w' => e = .returned (.bool (flagM M a l && (!raise || decide (0 < cellT X a l)))) ∧ w = w' := by
  obtain ⟨b1, o1, c1, r1, r2, r3, r4, r5⟩ := RX.cellI hr ha hl
  obtain ⟨b2, o2, c2, m1, m2, m3, m4, m5⟩ := RM.cellB hm ha hl
  obtain ⟨x, hx⟩ : ∃ x, cellT X a l = x := ⟨_, rfl⟩
  obtain ⟨fl, hfl⟩ : ∃ fl, flagM M a l = fl := ⟨_, rfl⟩
  rw [hx] at r2 ⊢
  rw [hfl] at m2 ⊢
  have HC := Lib.hid (cellS h a l ha (by omega) w)
  have h1' : (a : Int) < (h : Int) := by omega
  have h2' : decide ((h : Int) + (l : Int) < (h : Int)) = false := decide_eq_false (by omega)
  have hll : (l : Int) < (q : Int) := by omega
  clear hr hm hx hfl RX RM
  by_cases h0 : 0 < x
  · have h0' : decide (0 < x) = true := decide_eq_true h0
    rw [h0']
    cases fl <;> cases raise
    all_goals
      go_enter Tryz.func191, Tryz.ntmps191
      go_wp2_with fail
      refine (HC.out).mono ?_
      rintro e w' ⟨rfl, rfl⟩
      go_wp2_with fail
      go_ret
      exact ⟨rfl, rfl⟩
  · have h0' : decide (0 < x) = false := decide_eq_false h0
    rw [h0']
    cases fl <;> cases raise
    all_goals
      go_enter Tryz.func191, Tryz.ntmps191
      go_wp2_with fail
      refine (HC.out).mono ?_
      rintro e w' ⟨rfl, rfl⟩
      go_wp2_with fail
      go_ret
      exact ⟨rfl, rfl⟩

set_option maxHeartbeats 2000000 in
/-- A step from a column to a row. -/
theorem openS_col (tb ct : Nat) (X : List (List Int)) (mb cm : Nat) (M : List (List Bool)) (h q a l : Nat) (raise : Bool) (w : World) (RX : Rect X h q) (RM : Rect M h q) (hr : Tab .i64 w (some ⟨tb, 0, none⟩) tb 0 X) (hm : TabB w (some ⟨mb, 0, none⟩) mb 0 M) (ha : a < h) (hl : l < q) (hh : h ≤ 4) (hq : q ≤ 4) :
    Calls Tryz.prog 191 #[.slice (some ⟨tb, 0, none⟩) h ct, .slice (some ⟨mb, 0, none⟩) h cm, .int .i64 (((h + l : Nat)) : Int), .int .i64 (a : Int), .bool raise] w fun e w' => e = .returned (.bool (flagM M a l && (raise || decide (0 < cellT X a l)))) ∧ w = w' := by
  obtain ⟨b1, o1, c1, r1, r2, r3, r4, r5⟩ := RX.cellI hr ha hl
  obtain ⟨b2, o2, c2, m1, m2, m3, m4, m5⟩ := RM.cellB hm ha hl
  obtain ⟨x, hx⟩ : ∃ x, cellT X a l = x := ⟨_, rfl⟩
  obtain ⟨fl, hfl⟩ : ∃ fl, flagM M a l = fl := ⟨_, rfl⟩
  rw [hx] at r2 ⊢
  rw [hfl] at m2 ⊢
  have HC := Lib.hid (cellS' h a l ha (by omega) w)
  have h1' : (a : Int) < (h : Int) := by omega
  have h2' : decide ((h : Int) + (l : Int) < (h : Int)) = false := decide_eq_false (by omega)
  have hll : (l : Int) < (q : Int) := by omega
  clear hr hm hx hfl RX RM
  by_cases h0 : 0 < x
  · have h0' : decide (0 < x) = true := decide_eq_true h0
    rw [h0']
    cases fl <;> cases raise
    all_goals
      go_enter Tryz.func191, Tryz.ntmps191
      go_wp2_with fail
      refine (HC.out).mono ?_
      rintro e w' ⟨rfl, rfl⟩
      go_wp2_with fail
      go_ret
      exact ⟨rfl, rfl⟩
  · have h0' : decide (0 < x) = false := decide_eq_false h0
    rw [h0']
    cases fl <;> cases raise
    all_goals
      go_enter Tryz.func191, Tryz.ntmps191
      go_wp2_with fail
      refine (HC.out).mono ?_
      rintro e w' ⟨rfl, rfl⟩
      go_wp2_with fail
      go_ret
      exact ⟨rfl, rfl⟩

/-- Whether a step may change a cell. -/
def openB (X : List (List Int)) (M : List (List Bool)) (h : Nat) (raise : Bool) (u v : Nat) : Bool :=
  if u < h then (if v < h then false else flagM M u (v - h) && (!raise || decide (0 < cellT X u (v - h))))
  else (if v < h then flagM M v (u - h) && (raise || decide (0 < cellT X v (u - h))) else false)

theorem openS (tb ct : Nat) (X : List (List Int)) (mb cm : Nat) (M : List (List Bool)) (h q u v : Nat) (raise : Bool) (w : World) (RX : Rect X h q) (RM : Rect M h q) (hr : Tab .i64 w (some ⟨tb, 0, none⟩) tb 0 X) (hm : TabB w (some ⟨mb, 0, none⟩) mb 0 M) (hu : u < h + q) (hv : v < h + q) (hh : h ≤ 4) (hq : q ≤ 4) :
    Calls Tryz.prog 191 #[.slice (some ⟨tb, 0, none⟩) h ct, .slice (some ⟨mb, 0, none⟩) h cm, .int .i64 (u : Int), .int .i64 (v : Int), .bool raise] w fun e w' => e = .returned (.bool (openB X M h raise u v)) ∧ w = w' := by
  unfold openB
  by_cases h1 : u < h <;> by_cases h2 : v < h
  · rw [if_pos h1, if_pos h2]
    exact openS_same _ _ h ct cm u v raise (.inl ⟨h1, h2⟩) w
  · rw [if_pos h1, if_neg h2]
    obtain ⟨l, rfl⟩ : ∃ l, v = h + l := ⟨v - h, by omega⟩
    rw [Nat.add_sub_cancel_left]
    exact openS_row tb ct X mb cm M h q u l raise w RX RM hr hm h1 (by omega) hh hq
  · rw [if_neg h1, if_pos h2]
    obtain ⟨l, rfl⟩ : ∃ l, u = h + l := ⟨u - h, by omega⟩
    rw [Nat.add_sub_cancel_left]
    exact openS_col tb ct X mb cm M h q v l raise w RX RM hr hm h2 (by omega) hh hq
  · rw [if_neg h1, if_neg h2]
    exact openS_same _ _ h ct cm u v raise (.inr ⟨by omega, by omega⟩) w


theorem open_edge {X : List (List Int)} {M : List (List Bool)} {h q i j u v : Nat} {raise : Bool} (hi : i < h) (hu : u < h + q) (hv : v < h + q) (hne : v ≠ i) :
    Go.FlowMath.Edge h q i j (flagM M) raise (cellT X) u v ↔ openB X M h raise u v = true ∧ ¬ (u = i ∧ v = h + j) := by
  unfold Go.FlowMath.Edge openB
  by_cases h1 : u < h <;> by_cases h2 : v < h
  · rw [if_pos h1, if_pos h2]
    constructor
    · rintro (⟨_, _, _⟩ | ⟨_, _, _⟩) <;> omega
    · rintro ⟨h3, _⟩; cases h3
  · rw [if_pos h1, if_neg h2]
    simp only [Bool.and_eq_true, Bool.or_eq_true, Bool.not_eq_true', decide_eq_true_eq]
    constructor
    · rintro (⟨_, _, _, h3, h4, h5⟩ | ⟨_, _, _⟩)
      · refine ⟨⟨h4, ?_⟩, h3⟩
        cases raise
        · exact .inl rfl
        · exact .inr (h5 rfl)
      · omega
    · rintro ⟨⟨h3, h4⟩, h5⟩
      refine .inl ⟨h1, by omega, hv, h5, h3, fun e => ?_⟩
      rcases h4 with h4 | h4
      · rw [e] at h4; cases h4
      · exact h4
  · rw [if_neg h1, if_pos h2]
    simp only [Bool.and_eq_true, Bool.or_eq_true, decide_eq_true_eq]
    constructor
    · rintro (⟨_, _, _⟩ | ⟨_, _, _, h3, h4, h5⟩)
      · omega
      · refine ⟨⟨h4, ?_⟩, fun e => by omega⟩
        cases raise
        · exact .inr (h5 rfl)
        · exact .inl rfl
    · rintro ⟨⟨h3, h4⟩, h5⟩
      refine .inr ⟨by omega, hu, h2, fun e => hne e.1, h3, fun e => ?_⟩
      rcases h4 with h4 | h4
      · rw [e] at h4; cases h4
      · exact h4
  · rw [if_neg h1, if_neg h2]
    constructor
    · rintro (⟨_, _, _⟩ | ⟨_, _, _⟩) <;> omega
    · rintro ⟨h3, _⟩; cases h3
end Go.Proofs.YtlmlchkolcmhpaaGreatDoor
