/-
  Contract: impl.cellsOf at whole numbers: the iterator over the places of all cells, row by row.
-/
import Derived.RangeFuncNested
import Derived.RangeFuncBound
import Derived.RangeFuncCalls
import Derived.RangeFuncLeaves
import Derived.Shelf.Abstract
import Derived.Shelf.RegionOpen
import Derived.WalkKit
import Derived.OwnWalkIn
import Derived.TacticsInMore
import Derived.LoopNIn
import Derived.LoopIn
import Derived.Test.YtgnmfbgoacfjeaaDoorBase
namespace Go.Proofs.YtgnmfbgoacfjeaaDoor
open Go.RowKit Go.Shelf
attribute [local go_sem] Oper.semAt_some

/-- The places of rows of these lengths, row by row. -/
def poss (ls : List Nat) : List (Nat × Nat) := (List.range ls.length).flatMap fun i => (List.range (ls.getD i 0)).map fun j => (i, j)
/-- .. those before a place. -/
def upto (ls : List Nat) (i j : Nat) : List (Nat × Nat) := ((List.range i).flatMap fun i => (List.range (ls.getD i 0)).map fun j => (i, j)) ++ (List.range j).map fun j => (i, j)
theorem upto_zero (ls : List Nat) : upto ls 0 0 = [] := rfl
theorem upto_next (ls : List Nat) (i j : Nat) : upto ls i (j + 1) = upto ls i j ++ [(i, j)] := by
  unfold upto
  rw [List.range_succ, List.map_append, List.append_assoc]
  rfl
theorem upto_row (ls : List Nat) (i : Nat) : upto ls i (ls.getD i 0) = upto ls (i + 1) 0 := by
  unfold upto
  rw [List.range_succ, List.flatMap_append]
  simp
theorem upto_all (ls : List Nat) : upto ls ls.length 0 = poss ls := by
  unfold upto poss
  simp
theorem upto_prefix_row (ls : List Nat) (k : Nat) : ∀ i, upto ls i 0 <+: upto ls (i + k) 0 := by
  induction k with
  | zero => intro i; exact List.prefix_refl _
  | succ k ih =>
    intro i
    refine List.IsPrefix.trans (ih i) ?_
    rw [show i + (k + 1) = i + k + 1 by omega, ← upto_row]
    unfold upto
    simp
theorem upto_prefix (ls : List Nat) {i j : Nat} (hi : i < ls.length) (hj : j ≤ ls.getD i 0) : upto ls i j <+: poss ls := by
  have h1 : upto ls i j <+: upto ls (i + 1) 0 := by
    rw [← upto_row]
    unfold upto
    rw [List.prefix_append_right_inj]
    obtain ⟨d, hd⟩ : ∃ d, ls.getD i 0 = j + d := ⟨ls.getD i 0 - j, by omega⟩
    rw [hd, List.range_add, List.map_append]
    exact List.prefix_append _ _
  have h2 := upto_prefix_row ls (ls.length - (i + 1)) (i + 1)
  rw [show i + 1 + (ls.length - (i + 1)) = ls.length by omega, upto_all] at h2
  exact h1.trans h2
theorem upto_lt (ls : List Nat) {i j : Nat} (hi : i < ls.length) (hj : j < ls.getD i 0) : (upto ls i j).length < (poss ls).length := by
  have := (upto_prefix ls hi (show j + 1 ≤ _ from hj)).length_le
  rw [upto_next] at this
  simp at this
  omega
theorem mem_poss {ls : List Nat} {x : Nat × Nat} (h : x ∈ poss ls) : x.1 < ls.length ∧ x.2 < ls.getD x.1 0 := by
  unfold poss at h
  rw [List.mem_flatMap] at h
  obtain ⟨i, hi, h⟩ := h
  obtain ⟨j, hj, rfl⟩ := List.mem_map.1 h
  exact ⟨List.mem_range.1 hi, List.mem_range.1 hj⟩

/-- A slice whose cells hold slices of these lengths. -/
def Heads (w : World) (ao : Option Addr) (b off : Nat) (ls : List Nat) : Prop :=
  (0 < ls.length → ao = some ⟨b, off, none⟩) ∧ ∀ i, i < ls.length → (∃ a c, w.cell? ⟨b, off + i, none⟩ = some (.slice a (ls.getD i 0) c)) ∧ ls.getD i 0 ≤ 9223372036854775807

set_option maxRecDepth 100000 in
set_option maxHeartbeats 2000000 in
/-- The iterator's closure, for every loop body that keeps the rows' heads. -/
theorem cells1_in (F : Fence) (n : Nat) (hf : F.fn 67) (hro : F.round = none) (hn : 1 ≤ n) (l Bs : Nat) (ao : Option Addr) (b off cap : Nat) (ls : List Nat) (hls : ls.length ≤ 9223372036854775807) (Kp : World → World → Prop)
    (hKp : ∀ A B, Kp A B → ∀ o, o < off + ls.length → B.cell? ⟨b, o, none⟩ = A.cell? ⟨b, o, none⟩) (hKr : ∀ A, Kp A A) (hKt : ∀ A B C, Kp A B → Kp B C → Kp A C) (J Jx : List (Nat × Nat) → World → Prop)
    (hY : ∀ pre x W, J pre W → x.1 < ls.length → x.2 < ls.getD x.1 0 → pre.length < (poss ls).length → YieldAt F (n - 1) Tryd.prog l #[.int .i64 (x.1 : Int), .int .i64 (x.2 : Int)] W fun e W' =>
      (e = .returned (.bool true) ∧ J (pre ++ [x]) W' ∧ Kp W W') ∨ (e = .returned (.bool false) ∧ Jx (pre ++ [x]) W'))
    (W : World) (hBs : W.cell? ⟨Bs, 0, none⟩ = some (.slice ao ls.length cap)) (hH : Heads W ao b off ls) (h0 : J [] W) :
    CallsIn F n Tryd.prog 67 #[.func (.yield l) #[] #[], .pointer (some ⟨Bs, 0, none⟩)] W fun e W' => (∃ v, e = .returned v) ∧
      ((∃ ys, ys = poss ls ∧ J ys W') ∨ (∃ pre, pre <+: poss ls ∧ Jx pre W')) := by
  have HH := Lib.hid hH
  clear hH
  refine callsIn_of_wp Tryd.func67 rfl hf ?_ hro
  simp only [Tryd.ntmps67, List.size_toArray, List.length_cons, List.length_nil, Nat.reduceAdd, Nat.reduceSub, Array.replicate_succ, Array.replicate_zero, List.push_toArray, List.append_toArray, List.nil_append, List.cons_append]
  gi_wp2
  gi_loopw [8] (fun i wr => ∃ k : Nat, k ≤ ls.length ∧ i = .int .i64 k ∧ J (upto ls k 0) wr ∧ Kp W wr)
    (fun i _ => ls.length - (intOf i).toNat)
  case atStart => exact ⟨0, Nat.zero_le _, rfl, h0, hKr _⟩
  case round =>
    obtain ⟨k, hk, rfl, hJs, hnx⟩ := hrel
    have HN := Lib.hid hnx
    clear hnx
    by_cases hlt : k < ls.length
    · obtain rfl := HH.out.1 (by omega)
      obtain ⟨⟨ra, rc, hcell⟩, hrl⟩ := HH.out.2 k hlt
      have hcx : wr.cell? ⟨b, off + k, none⟩ = some (.slice ra (ls.getD k 0) rc) := (hKp _ _ HN.out (off + k) (by omega)).trans hcell
      have HUR := Lib.hid (upto_row ls k)
      have HUP := Lib.hid (fun j (hj : j ≤ ls.getD k 0) => upto_prefix ls hlt hj)
      have HUL := Lib.hid (fun j (hj : j < ls.getD k 0) => upto_lt ls hlt hj)
      have HYK := Lib.hid (fun j (hj : j < ls.getD k 0) (pre : List (Nat × Nat)) (W : World) (h1 : J pre W) (h2 : pre.length < (poss ls).length) => hY pre (k, j) W h1 hlt hj h2)
      obtain ⟨m, hm⟩ : ∃ m, ls.getD k 0 = m := ⟨_, rfl⟩
      rw [hm] at hcx hrl HUR HUP HUL HYK
      clear hcell hm
      gi_wp2
      gi_loopw [15] (fun j wq => ∃ q : Nat, q ≤ m ∧ j = .int .i64 q ∧ J (upto ls k q) wq ∧ Kp W wq)
        (fun j _ => m - (intOf j).toNat)
      case atStart => exact ⟨0, Nat.zero_le _, rfl, hJs, HN.out⟩
      case round =>
        obtain ⟨q, hq, rfl, hJq, hnq⟩ := hrel
        have HNQ := Lib.hid hnq
        clear hnq
        by_cases hqt : q < m
        · obtain ⟨fn, tmps, assign, body, hy, hR⟩ := HYK.out q hqt _ wr hJq (HUL.out q hqt)
          gi_wp2
          refine hR.mono ?_
          rintro e W3 (⟨rfl, hJ3, hk3⟩ | ⟨rfl, hJx3⟩)
          · gi_wp2
            go_roundw
            case rel => exact ⟨q + 1, by omega, by simp, by rw [upto_next]; exact hJ3, hKt _ _ _ HNQ.out hk3⟩
            case measure => simp [intOf]; omega
          · gi_wp2
            refine bodyPost_ret (results_none rfl _ _ _) rfl ?_
            exact ⟨⟨_, rfl⟩, .inr ⟨_, by rw [← upto_next]; exact HUP.out (q + 1) (by omega), hJx3⟩⟩
        · obtain rfl : q = m := by omega
          gi_wp2
          go_roundw
          case rel => exact ⟨k + 1, by omega, by simp, by rw [← HUR.out]; exact hJq, HNQ.out⟩
          case measure => simp [intOf]; omega
    · obtain rfl : k = ls.length := by omega
      gi_wp2
      go_end0
      exact ⟨⟨_, rfl⟩, .inl ⟨_, upto_all ls, hJs⟩⟩

set_option maxHeartbeats 1000000 in
/-- cellsOf: the slice is boxed; the function value captures the box. -/
theorem cells_in (F : Fence) (n : Nat) (hf : F.fn 48) (hro : F.round = none) (a : Option Addr) (len cap : Nat) (w : World) :
    CallsIn F n Tryd.prog 48 #[.slice a len cap] w fun e w' => e = .returned (.func (.func 67) #[] #[.pointer (some ⟨w.heap.size, 0, none⟩)]) ∧ w' = w.alloc (.cells #[.slice a len cap] 32) := by
  refine callsIn_of_wp Tryd.func48 rfl hf ?_ hro
  simp only [Tryd.ntmps48, List.size_toArray, List.length_cons, List.length_nil, Nat.reduceAdd, Nat.reduceSub, Array.replicate_succ, Array.replicate_zero, List.push_toArray, List.append_toArray, List.nil_append, List.cons_append]
  gi_wp2
  go_ret
  exact ⟨rfl, rfl⟩

/-- A place. -/
abbrev Pos (ls : List Nat) : Type := { x : Nat × Nat // x.1 < ls.length ∧ x.2 < ls.getD x.1 0 }
def Pos.vals {ls : List Nat} (xs : List (Pos ls)) : List (Nat × Nat) := xs.map Subtype.val
theorem Pos.vals_snoc {ls : List Nat} (xs : List (Pos ls)) (x : Pos ls) : Pos.vals (xs ++ [x]) = Pos.vals xs ++ [x.1] := by
  unfold Pos.vals
  rw [List.map_append]
  rfl

/-- cellsOf hands back an iterator over all places, in order. -/
theorem cells_stops (F : Fence) (n : Nat) (hf : F.fn 67) (hro : F.round = none) (hn : 1 ≤ n) (Bs : Nat) (ao : Option Addr) (b off cap : Nat) (ls : List Nat) (hls : ls.length ≤ 9223372036854775807) (Kp : World → World → Prop)
    (hKp : ∀ A B, Kp A B → ∀ o, o < off + ls.length → B.cell? ⟨b, o, none⟩ = A.cell? ⟨b, o, none⟩) (hKr : ∀ A, Kp A A) (hKt : ∀ A B C, Kp A B → Kp B C → Kp A C) (w : World) (hBs : Bs < w.heap.size) (hb : 0 < ls.length → b < w.heap.size)
    (hc : w.cell? ⟨Bs, 0, none⟩ = some (.slice ao ls.length cap)) (hH : Heads w ao b off ls) :
    SeqStopsK F n Tryd.prog 67 #[.pointer (some ⟨Bs, 0, none⟩)] (fun x : Pos ls => #[Value.int .i64 (x.1.1 : Int), Value.int .i64 (x.1.2 : Int)]) Kp (fun ys => Pos.vals ys = poss ls) (fun pre => Pos.vals pre <+: poss ls) (poss ls).length w :=
  fun l J Jx W hW _ _ hY h0 => by
    refine (cells1_in F n hf hro hn l Bs ao b off cap ls hls Kp hKp hKr hKt (fun pre W => ∃ p, Pos.vals p = pre ∧ J p W) (fun pre W => ∃ p, Pos.vals p = pre ∧ Jx p W) ?_ W ((hW.cell (p := ⟨Bs, 0, none⟩) hBs).trans hc)
      ⟨hH.1, fun i hi => by
        obtain ⟨⟨a, c, h1⟩, h2⟩ := hH.2 i hi
        exact ⟨⟨a, c, (hW.cell (p := ⟨b, off + i, none⟩) (hb (by omega))).trans h1⟩, h2⟩⟩ ⟨[], rfl, h0⟩).mono ?_
    · rintro pre x W1 ⟨p, rfl, hj⟩ h1 h2 h3
      obtain ⟨fn, tmps, assign, body, hy, hR⟩ := hY p ⟨x, h1, h2⟩ W1 hj (by unfold Pos.vals at h3; rw [List.length_map] at h3; exact h3)
      refine ⟨fn, tmps, assign, body, hy, hR.mono ?_⟩
      rintro e W' (⟨he, hj', hk⟩ | ⟨he, hj'⟩)
      · exact .inl ⟨he, ⟨_, Pos.vals_snoc _ _, hj'⟩, hk⟩
      · exact .inr ⟨he, ⟨_, Pos.vals_snoc _ _, hj'⟩⟩
    · rintro e W' ⟨hv, ⟨ys, rfl, p, hp, hj⟩ | ⟨pre, hpre, p, hp, hj⟩⟩
      · exact ⟨hv, .inl ⟨p, hp, hj⟩⟩
      · exact ⟨hv, .inr ⟨p, by show Pos.vals p <+: _; rw [hp]; exact hpre, hj⟩⟩
end Go.Proofs.YtgnmfbgoacfjeaaDoor
