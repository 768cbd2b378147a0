/-
  What is known behind an append whose order beside other operations is open.
-/
import Derived.Test.YtjglikccikeejabDrawL
namespace Go.Proofs.Ytjglikccikeejab
open Go.RowKit

/-- Behind an append, whichever of three worlds it was made in. -/
theorem app_below {B : Nat} {w a b c W w' : World} (ha : Below B w a) (hb : Below B w b) (hc : Below B w c) (h : Below B W w') (e : W = a ∨ W = b ∨ W = c := by first | exact .inl rfl | exact .inr (.inl rfl) | exact .inr (.inr rfl)) : Below B w w' := by
  rcases e with rfl | rfl | rfl
  · exact ha.trans h
  · exact hb.trans h
  · exact hc.trans h

/-- A row of one number is left alone by an append to a slice of another block. -/
theorem row_grown {w w' : World} {g : Nat} {y : Int} {row : Option Nat} (h : Row .i64 w (some ⟨g, 0, none⟩) g 0 [y]) (hg : w.drew.grownBy w' row) (hne : row ≠ some g) : Row .i64 w' (some ⟨g, 0, none⟩) g 0 [y] := by
  refine ⟨h.1, fun i hi => ?_⟩
  have h0 := h.2 i hi
  rw [World.cell?_of_block (w := w) (hg.block g (World.block_lt_of_cell? _ _ h0) (Ne.symm hne))]
  exact h0

end Go.Proofs.Ytjglikccikeejab
