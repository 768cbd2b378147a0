/-
  What is known behind an append that was made behind a call.
-/
import Derived.Test.YtjglikccikeejabDrawM
namespace Go.Proofs.Ytjglikccikeejab
open Go.RowKit

theorem row_grown0 {w w' : World} {g : Nat} {y : Int} {row : Option Nat} (h : Row .i64 w (some ⟨g, 0, none⟩) g 0 [y]) (hg : w.grownBy w' row) (hne : row ≠ some g) : Row .i64 w' (some ⟨g, 0, none⟩) g 0 [y] := by
  refine ⟨h.1, fun i hi => ?_⟩
  have h0 := h.2 i hi
  rw [World.cell?_of_block (w := w) (hg.block g (World.block_lt_of_cell? _ _ h0) (Ne.symm hne))]
  exact h0

end Go.Proofs.Ytjglikccikeejab
