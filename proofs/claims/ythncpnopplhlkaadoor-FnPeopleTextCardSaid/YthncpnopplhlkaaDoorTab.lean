/-
  A slice of slices of whole numbers that is only read.
-/
import Derived.Test.YthncpnopplhlkaaDoorOwnP
namespace Go.Proofs.YthncpnopplhlkaaDoor
open Go.RowKit

/-- A slice of rows: each of its cells holds a slice, and each of these reads as its row. -/
def Tab (k : IntKind) (w : World) (ao : Option Addr) (b off : Nat) (T : List (List Int)) : Prop :=
  (0 < T.length → ao = some ⟨b, off, none⟩) ∧ ∀ i, i < T.length → ∃ a' b' o' c', w.cell? ⟨b, off + i, none⟩ = some (.slice a' (T.getD i []).length c') ∧
    Row k w a' b' o' (T.getD i []) ∧ (T.getD i []).length ≤ c' ∧ c' ≤ 9223372036854775807

theorem lt_of_cell {w : World} {b i : Nat} {v : Value} (h : w.cell? ⟨b, i, none⟩ = some v) : b < w.heap.size := by
  apply Classical.byContradiction
  intro hn
  have : w.heap[b]? = none := Array.getElem?_eq_none (by omega)
  simp [World.cell?, this] at h

theorem Tab.keep {k : IntKind} {w w' : World} {ao : Option Addr} {b off : Nat} {T : List (List Int)} (h : Tab k w ao b off T) {B : Nat} (hb : Below B w w') (hB : w.heap.size ≤ B) : Tab k w' ao b off T := by
  refine ⟨h.1, fun i hi => ?_⟩
  obtain ⟨a', b', o', c', h1, h2, h3, h4⟩ := h.2 i hi
  exact ⟨a', b', o', c', (hb.cell (p := ⟨b, off + i, none⟩) (Nat.lt_of_lt_of_le (lt_of_cell h1) hB)).trans h1, h2.keep hb hB, h3, h4⟩

end Go.Proofs.YthncpnopplhlkaaDoor
