/-
  What is owned is kept where only the reader's block turns.
-/
import Derived.Test.YthncpnopplhlkaaDoorDrawTT
namespace Go.Proofs.YthncpnopplhlkaaDoor
open Go.RowKit

theorem own_only {w w' : World} {rb base size n : Nat} {e : TypeId} {v : Value} {cs : List Value} (h : w.ownsRow base e size v n cs) (ho : Only rb w w') (hb : rb < base) : w'.ownsRow base e size v n cs := by
  refine World.ownsRow.kept (row := some rb) h ⟨ho.1, ho.2.1, ho.2.2.1, Nat.le_of_eq ho.2.2.2.1.symm, fun k _ hne => ho.2.2.2.2 k (fun e => hne (by rw [e]))⟩ ?_
  cases hv : v.ownBlock with
  | none => exact .inl rfl
  | some k =>
    refine .inr (fun e => ?_)
    have := World.ownsRow.lt h k hv
    injection e with e
    omega

end Go.Proofs.YthncpnopplhlkaaDoor
