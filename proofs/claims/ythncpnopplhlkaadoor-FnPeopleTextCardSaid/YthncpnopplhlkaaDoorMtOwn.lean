/-
  Rows of rows under a range over a function: they are kept where only what is no cells has turned.
-/
import Derived.Test.YthncpnopplhlkaaDoorMt
import Derived.RangeFuncNested
import Derived.RangeFuncBox
namespace Go.Proofs.YthncpnopplhlkaaDoor
open Go.RowKit
variable {α : Type} {enc : α → Value} {RT ET : TypeId} {w w' : World} {base : Nat} {v : Value} {T : List (List α)} {g : Nat → Nat}
theorem orow_keptO {row : Option Nat} {e : TypeId} {size n : Nat} {cs : List Value} (h : w.ownsRow base e size v n cs) (hg : w.grownBy w' row) (hr : ∀ r, row = some r → ∃ o : Obj, w.heap[r]? = some o ∧ o.isCells = false) : w'.ownsRow base e size v n cs := by
  refine h.kept hg ?_
  rcases h.2 with ⟨rfl, _⟩ | ⟨k, cap, cur, rfl, _, hgb, _⟩
  · exact .inl rfl
  · refine .inr fun e' => ?_
    obtain ⟨o, ho, hc⟩ := hr k (by simpa [Value.ownBlock] using e'.symm)
    rw [hgb] at ho; cases ho; cases hc
theorem rowIs_keptO {row : Option Nat} {b n : Nat} {e : TypeId} {f : Nat → Value} (h : w.rowIs b e n f) (hg : w.grownBy w' row) (hr : ∀ r, row = some r → ∃ o : Obj, w.heap[r]? = some o ∧ o.isCells = false) : w'.rowIs b e n f := by
  refine h.of_block (hg.block _ h.lt fun e' => ?_)
  obtain ⟨cur, hh, _⟩ := h
  obtain ⟨o, ho, hc⟩ := hr b e'.symm
  rw [hh] at ho; cases ho; cases hc
theorem MtG.keptO {row : Option Nat} (h : MtG enc RT ET w base v T g) (hg : w.grownBy w' row) (hr : ∀ r, row = some r → ∃ o : Obj, w.heap[r]? = some o ∧ o.isCells = false) : MtG enc RT ET w' base v T g := by
  obtain ⟨cs, hc, hcs⟩ := h.top
  refine ⟨⟨cs, orow_keptO hc hg hr, fun i hi => ?_⟩, h.low, h.inj⟩
  obtain ⟨c, f, h1, h2, h3, hf, h4⟩ := hcs i hi
  exact ⟨c, f, h1, h2, h3, rowIs_keptO hf hg hr, h4⟩
theorem orow_mono {base' : Nat} {e : TypeId} {size n : Nat} {cs : List Value} (h : w.ownsRow base e size v n cs) (hb : base' ≤ base) : w.ownsRow base' e size v n cs := by
  refine ⟨h.1, ?_⟩
  rcases h.2 with h2 | ⟨g, cap, cur, hv, hg, r⟩
  · exact .inl h2
  · exact .inr ⟨g, cap, cur, hv, Nat.le_trans hb hg, r⟩
theorem MtG.mono {base' : Nat} (h : MtG enc RT ET w base v T g) (hb : base' ≤ base) : MtG enc RT ET w base' v T g := by
  obtain ⟨cs, hc, hcs⟩ := h.top
  exact ⟨⟨cs, orow_mono hc hb, hcs⟩, fun i hi => Nat.le_trans hb (h.low i hi), h.inj⟩
theorem MtG.alloc (h : MtG enc RT ET w base v T g) (o : Obj) : MtG enc RT ET (w.alloc o) base v T g := h.keptO (World.grownBy_alloc w o none) (fun r e => by cases e)
theorem MtG.box {bo : Nat} {u : Value} (h : MtG enc RT ET w base v T g) (hbo : ∀ k, v.ownBlock = some k → k ≠ bo) (hg : ∀ i, i < T.length → g i ≠ bo) : MtG enc RT ET (w.setCell ⟨bo, 0, none⟩ u) base v T g := by
  obtain ⟨cs, hc, hcs⟩ := h.top
  have hgr : w.grownBy (w.setCell ⟨bo, 0, none⟩ u) (some bo) := grownBy_setCell' w bo u
  refine ⟨⟨cs, World.ownsRow.kept hc hgr ?_, fun i hi => ?_⟩, h.low, h.inj⟩
  · cases hv : v.ownBlock with
    | none => exact .inl rfl
    | some k => exact .inr (fun e => by injection e with e; exact hbo k hv e)
  · obtain ⟨c, f, h1, h2, h3, hf, h4⟩ := hcs i hi
    exact ⟨c, f, h1, h2, h3, hf.of_block (hgr.block _ hf.lt (fun e => by injection e with e; exact hg i hi e)), h4⟩
end Go.Proofs.YthncpnopplhlkaaDoor
