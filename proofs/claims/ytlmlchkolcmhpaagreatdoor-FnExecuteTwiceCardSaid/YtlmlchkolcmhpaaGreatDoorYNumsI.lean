/-
  Contract: impl.numbersFrom, at most four numbers.
-/
import Derived.Test.YtlmlchkolcmhpaaGreatDoorJ4
import Derived.Test.YtlmlchkolcmhpaaGreatDoorJ3
import Derived.Test.YtlmlchkolcmhpaaGreatDoorYGrowIn
import Derived.Test.YtlmlchkolcmhpaaGreatDoorJ1
namespace Go.Proofs.YtlmlchkolcmhpaaGreatDoor
open Go.RowKit Go.Shelf
open Go.ParseMath (cutL okI valI lineOk lineV)
attribute [local go_sem] Oper.semAt_some

def bvals (xs : List ByteArray) : List Int := xs.map fun x => valI x.data.toList
/-- What a line's numbers come to. -/
def NumsP (l : List UInt8) (w : World) (e : Ending) (w' : World) : Prop :=
  ∃ v, e = .returned (.tuple #[v, .bool (lineOk 4 l)]) ∧ (lineOk 4 l = true → Own w' w.heap.size v (lineV l)) ∧ Below w.heap.size w w'

/-- Between two rounds. -/
def NumI (w : World) (pre : List ByteArray) (W : World) : Prop :=
  (∃ v, Boxed W (w.heap.size + 3) 53 v ∧ Own W (w.heap.size + 7) v (bvals pre)) ∧ ((∀ x ∈ pre, okI x.data.toList = true) ∧ pre.length ≤ 4) ∧
  (Boxed W w.heap.size 3 (.int .i64 4) ∧ Boxed W (w.heap.size + 1) 53 (.slice none 0 0) ∧ Boxed W (w.heap.size + 2) 4 (.bool false)) ∧ Below w.heap.size w W ∧ w.heap.size + 7 ≤ W.heap.size
/-- A round has returned. -/
def NumX (w : World) (pre : List ByteArray) (W : World) : Prop :=
  (Boxed W (w.heap.size + 1) 53 (.slice none 0 0) ∧ Boxed W (w.heap.size + 2) 4 (.bool false)) ∧ ((∃ x ∈ pre, okI x.data.toList = false) ∨ 4 < pre.length) ∧ Below w.heap.size w W

theorem boxed_keptO {W W' : World} {row : Option Nat} {B : Nat} {t : TypeId} {v : Value} (h : Boxed W B t v) (hg : W.grownBy W' row) (hr : ∀ r, row = some r → ∃ o : Obj, W.heap[r]? = some o ∧ o.isCells = false) : Boxed W' B t v :=
  h.kept hg fun e' => by
    obtain ⟨o, ho, hc⟩ := hr B e'.symm
    rw [show W.heap[B]? = _ from h] at ho; cases ho; cases hc
theorem boxed_put {W : World} {B D : Nat} {t : TypeId} {v : Value} {o : Obj} (h : Boxed W B t v) (hne : B ≠ D) : Boxed (W.putObj D o) B t v := (World.putObj_heap_other hne).trans h
theorem below_others {W V : World} (h : Below W.heap.size W V) : KeepsOthers W V := ⟨h.size, fun k o hk _ => (h.block k (Array.getElem?_eq_some_iff.1 hk).1).trans hk⟩
theorem boxed_below {W V : World} (h : Below W.heap.size W V) {B : Nat} {t : TypeId} {v : Value} (hb : Boxed W B t v) : Boxed V B t v := (h.block B hb.lt).trans hb

end Go.Proofs.YtlmlchkolcmhpaaGreatDoor
