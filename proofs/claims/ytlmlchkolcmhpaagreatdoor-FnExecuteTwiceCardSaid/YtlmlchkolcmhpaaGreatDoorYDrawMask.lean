/-
  Contract: spec.l92Mask: masks that are drawn.
-/
import Derived.Test.YtlmlchkolcmhpaaGreatDoorJ3
namespace Go.Proofs.YtlmlchkolcmhpaaGreatDoor
open Go.RowKit

/-- A mask that was drawn, whatever it holds, in memory of the call's own. -/
def MaskD (rb : Nat) (p : Int) (w : World) (e : Ending) (w' : World) : Prop :=
  ∃ (v : Value) (M : List (List Bool)) (g : Nat → Nat) (p' : Int), e = .returned v ∧ MtB w' w.heap.size v M g ∧ M.length ≤ 5 ∧ (∀ i, i < M.length → (M.getD i []).length ≤ 5) ∧ IsRd w' rb p' ∧ p' ≤ p + 40 ∧ Fr rb w w'

theorem own_rowIs {w : World} {base gb n c : Nat} {r : List Bool} (h : w.ownsRow base 4 1 (.slice (some ⟨gb, 0, none⟩) n c) r.length (r.map Value.bool)) :
    ∃ f, w.rowIs gb 4 c f ∧ (∀ j x, r[j]? = some x → f j = Value.bool x) ∧ n = r.length ∧ r.length ≤ c ∧ c ≤ 9223372036854775807 ∧ base ≤ gb := by
  have hcl := fun i u hu => World.ownsRow.cells (g := gb) h rfl i u hu
  rcases h.2 with ⟨h0, _⟩ | ⟨g2, cap2, cur2, hv2, hb2, hh2, hn2, hm2, hs2, _⟩
  · cases h0
  · injection hv2 with e1 e2 e3
    injection e1 with e1
    injection e1 with e1 _ _
    subst e1
    subst e3
    have hr2 : w.rowIs gb 4 c (fun j => cur2.getD j undef) := ⟨cur2, hh2, by rw [hs2, Nat.mul_one], fun j hj => by
      have : j < cur2.size := by rw [hs2]; omega
      simp [Array.getD, this]⟩
    refine ⟨_, hr2, fun j x hx => ?_, e2, hn2, by unfold maxLen at hm2; omega, hb2⟩
    have h1 := hcl j (Value.bool x) (by rw [List.getElem?_map, hx]; rfl)
    rw [add_none, Nat.zero_add] at h1
    have hj := (List.getElem?_eq_some_iff.1 hx).1
    rw [hr2.cell (by omega)] at h1
    injection h1

theorem own_lit {base H : Nat} (w : World) (hb : base ≤ w.heap.size) (hH : H = w.heap.size) : (w.alloc (.cells #[] 4)).ownsRow base 4 1 (.slice (some ⟨H, 0, none⟩) 0 0) 0 ([] : List Value) := by
  subst hH
  have := World.ownsRow_lit (base := base) (e := 4) (size := 1) w #[] 0 hb (by unfold maxLen; omega) (by simp)
  simpa using this
end Go.Proofs.YtlmlchkolcmhpaaGreatDoor
