/-
  Small laws of loops over the places of a table: the rows' heads, what such a loop keeps, how a walk inside a fence ends.
-/
import Derived.Test.YtcjhenfofekofaaGreatDoorJ2
import Derived.Test.YtcjhenfofekofaaGreatDoorJ4
import Derived.Test.YtcjhenfofekofaaGreatDoorYRound
import Derived.Deep.DeepCutAuto
import Derived.RangeFuncBox
import Derived.Deep.RegionWith
namespace Go.Proofs.YtcjhenfofekofaaGreatDoor
open Go.RowKit Go.Shelf
open Go.TextMath (tvB mvB text word)

theorem tab_headsT {w : World} {ao : Option Addr} {b off : Nat} {T : List (List Int)} (h : Tab .i64 w ao b off T) : Heads w ao b off (lensT T) := by
  refine ⟨fun h0 => h.1 (by rw [lensT_len] at h0; exact h0), fun i hi => ?_⟩
  rw [lensT_len] at hi
  obtain ⟨a', b', o', c', h1, h2, h3, h4⟩ := h.2 i hi
  rw [lensT_at T hi]
  exact ⟨⟨a', c', h1⟩, by omega⟩
theorem postF_ret {F : Fence} {n : Nat} {P : Program} {fn : Func} {R : Ending → World → Prop} {a : Act} {w : World} {v : Value} (h : (results fn a.tmps).run P w = .ok v w) (hd : a.defers = []) (hR : R (.returned v) w) : bodyPostM F n P fn R .ret a w := by
  show LeavesInM F n P fn a.tmps R a.defers .returning w
  rw [hd]
  exact ⟨v, h, hR⟩
/-- What a loop keeps that leaves block tb alone. -/
def KpT (tb : Nat) (A B : World) : Prop := B.heap[tb]? = A.heap[tb]?
theorem KpT.t {tb : Nat} {A B C : World} (h : KpT tb A B) (k : KpT tb B C) : KpT tb A C := Eq.trans k h
theorem KpT.b {tb : Nat} {w : World} (hn : tb < w.heap.size) (W : World) (l : Nat) (o o' : Obj) (hl : w.heap.size ≤ l) (_ : W.heap[l]? = some o) (_ : o.isCells = false) (_ : o.isWalk = false) : KpT tb W (W.putObj l o') :=
  World.putObj_heap_other (by omega)
theorem KpT.cell {tb : Nat} {A B : World} (h : KpT tb A B) (o : Nat) : B.cell? ⟨tb, o, none⟩ = A.cell? ⟨tb, o, none⟩ := World.cell?_of_block h
/-- Two tables of the same shape and the same cells. -/
theorem grid_ext {A B : List (List Int)} (hl : A.length = B.length) (hr : ∀ i, i < A.length → (A.getD i []).length = (B.getD i []).length) (hc : ∀ i, i < A.length → ∀ j, j < (A.getD i []).length → cellT A i j = cellT B i j) : A = B := by
  apply List.ext_getElem hl
  intro i h1 h2
  have e1 : A.getD i [] = A[i] := by simp [List.getD_eq_getElem?_getD, List.getElem?_eq_getElem h1]
  have e2 : B.getD i [] = B[i] := by simp [List.getD_eq_getElem?_getD, List.getElem?_eq_getElem h2]
  have hr' := hr i h1
  have hc' := hc i h1
  unfold cellT at hc'
  rw [e1, e2] at hr' hc'
  apply List.ext_getElem hr'
  intro j g1 g2
  have := hc' j g1
  rwa [List.getD_eq_getElem?_getD, List.getElem?_eq_getElem g1, List.getD_eq_getElem?_getD, List.getElem?_eq_getElem g2] at this
theorem poss_inT {T : List (List Int)} (h : tvB T = true) {x : Nat × Nat} (hx : x ∈ poss (lensT T)) : x.1 < T.length ∧ x.2 < (T.getD 0 []).length := (poss_tv h).1 hx
theorem pos_lens {T : List (List Int)} (h : tvB T = true) (x : Pos (lensT T)) : x.1.1 < T.length ∧ x.1.2 < (T.getD 0 []).length := by
  obtain ⟨⟨i, j⟩, h1, h2⟩ := x
  simp only at h1 h2 ⊢
  rw [lensT_len] at h1
  rw [lensT_at T h1, ((tv_t.1 h).2.2.2.2 i h1).1] at h2
  exact ⟨h1, h2⟩
theorem vals_in {T : List (List Int)} (h : tvB T = true) (pre : List (Pos (lensT T))) : ∀ x ∈ Pos.vals pre, x.1 < T.length ∧ x.2 < (T.getD 0 []).length := fun x hx => by
  obtain ⟨y, _, rfl⟩ := List.mem_map.1 hx
  exact pos_lens h y
end Go.Proofs.YtcjhenfofekofaaGreatDoor
