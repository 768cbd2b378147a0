/-
  What the draws of the statements on questions hand over.
-/
import Derived.Test.YtjglikccikeejabQuest
namespace Go.Proofs.Ytjglikccikeejab
open Go.RowKit

/-- A number and questions, in new memory. -/
def DrawnL (w : World) (e : Ending) (w' : World) : Prop :=
  ∃ (n : Int) (v : Value) (zs : List Int), e = .returned (.tuple #[.int .i64 n, v]) ∧ zs.length ≤ 14 ∧ Own w' w.heap.size v zs ∧ Below w.heap.size w w'
/-- And one number more. -/
def DrawnM (w : World) (e : Ending) (w' : World) : Prop :=
  ∃ (n : Int) (v : Value) (zs : List Int) (i : Int), e = .returned (.tuple #[.int .i64 n, v, .int .i64 i]) ∧ zs.length ≤ 14 ∧ Own w' w.heap.size v zs ∧ Below w.heap.size w w'

theorem Own.row2 {w : World} {base : Nat} {v : Value} {zs : List Int} (h : Own w base v zs) : ∃ ao b cap, v = .slice ao zs.length cap ∧ zs.length ≤ cap ∧ cap ≤ 9223372036854775807 ∧ Row .i64 w ao b 0 zs ∧ (ao = none → cap = 0) ∧ (ao = none ∨ ao = some ⟨b, 0, none⟩) := by
  rcases h.2 with ⟨rfl, h0⟩ | ⟨g, cap, cur, rfl, hb, hh, hn, hm, hs, ht⟩
  · have : zs = [] := List.length_eq_zero_iff.1 h0
    subst this
    exact ⟨none, 0, 0, rfl, Nat.le_refl _, by omega, Row.nil, fun _ => rfl, .inl rfl⟩
  · refine ⟨some ⟨g, 0, none⟩, g, cap, rfl, hn, by unfold maxLen at hm; omega, ⟨fun _ => rfl, fun i hi => ?_⟩, (fun h => by cases h), .inr rfl⟩
    rw [Nat.zero_add]
    have := h
    unfold Own at this
    rw [World.ownsRow.cellAt this i (by omega), List.getElem?_map, List.getElem?_eq_getElem hi]
    simp [List.getD_eq_getElem?_getD, List.getElem?_eq_getElem hi]

theorem Row.keep2 {k : IntKind} {w w' : World} {ao : Option Addr} {b off : Nat} {xs : List Int} (h : Row k w ao b off xs) {B : Nat} (hb : Below B w w') (hB : 0 < xs.length → b < B) : Row k w' ao b off xs :=
  ⟨h.1, fun i hi => by rw [hb.cell (p := ⟨b, off + i, none⟩) (hB (by omega))]; exact h.2 i hi⟩
theorem Row.lt {k : IntKind} {w : World} {ao : Option Addr} {b off : Nat} {xs : List Int} (h : Row k w ao b off xs) : 0 < xs.length → b < w.heap.size := fun h0 => World.block_lt_of_cell? _ _ (h.2 0 h0)

theorem Row.drop2 {k : IntKind} {w : World} {b K cap : Nat} {xs : List Int} (h : Row k w (some ⟨b, 0, none⟩) b 0 xs) (hc : xs.length ≤ cap) : Row k w (if cap = K then some ⟨b, 0, none⟩ else some ⟨b, K, none⟩) b K (xs.drop K) := by
  refine ⟨fun h0 => ?_, fun i hi => ?_⟩
  · rw [List.length_drop] at h0; rw [if_neg (by omega)]
  · rw [List.length_drop] at hi
    have := h.2 (K + i) (by omega)
    rw [Nat.zero_add] at this
    rw [this]
    simp [List.getD_eq_getElem?_getD, List.getElem?_drop]

/-- A slice of the call's own that has the same questions. -/
def RotT (zs : List Int) (w : World) (s : Value) (wx : World) : Prop := ∃ X : List Int, (∀ q, q ∈ X ↔ q ∈ zs) ∧ X.length = zs.length ∧ Own wx w.heap.size s X ∧ Below w.heap.size w wx
/-- A slice of the call's own that has these questions and one more. -/
def AppT (zs : List Int) (q : Int) (w : World) (s : Value) (wx : World) : Prop := Own wx w.heap.size s (zs ++ [q]) ∧ Below w.heap.size w wx

theorem mem_rot {zs : List Int} (K : Nat) (q : Int) : q ∈ zs.drop K ++ zs.take K ↔ q ∈ zs := by
  rw [List.mem_append, or_comm, ← List.mem_append, List.take_append_drop]

end Go.Proofs.Ytjglikccikeejab
