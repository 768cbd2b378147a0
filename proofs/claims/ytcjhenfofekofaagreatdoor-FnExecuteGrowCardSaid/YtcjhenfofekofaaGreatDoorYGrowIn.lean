/-
  append of one element, in a round of a range over a function.
-/
import Derived.Test.YtcjhenfofekofaaGreatDoorJ1
import Derived.Test.YtcjhenfofekofaaGreatDoorYRound
namespace Go.Proofs.YtcjhenfofekofaaGreatDoor
open Go.RowKit

theorem wpListIn_appH {T E : TypeId} {z : Value} {size bytes : Nat} (L : Elt T E z size bytes) {ops : Array Oper} {rest : List Oper} {o : Oper} {a : Act} {Q : Exit → Act → World → Prop} {w0 : World} {ob : Obj} {nn l0 : Nat} (hg : o.guard = none) (s x : Operand)
    (ho : o.op = .call { callee := .builtin .append, args := #[s, x], argTypes := #[T, T] }) (base : Nat) (v : Value) (n : Nat) (cs : List Value) (hs : a.eval s = v) (hown : w0.ownsRow base E size v n cs)
    (ys : List Value) (hys : ys.length = size) (h1 : ∀ u ∈ ys, u.oneCell' = true) (hob : ob = .cells ys.toArray E) (H : Nat) (hH : H = w0.heap.size) (hx : a.eval x = .slice (some ⟨H, 0, none⟩) 1 1) (hl : n ≤ 1000000000) (hbase : base ≤ w0.heap.size)
    (h : ∀ v' w', w'.ownsRow base E size v' (n + 1) (cs ++ ys) → Below base w0 w' → w0.grownBy w' v.ownBlock → wpListIn (Fence.wide.inRound l0) nn Tryz.prog ops Q rest (a.put o.dst v') w') : wpListIn (Fence.wide.inRound l0) nn Tryz.prog ops Q (o :: rest) a (w0.alloc ob) := by
  subst hH
  exact wpListIn_plain hg fun K hK => oper_in (fun c e => by rw [ho] at e; cases e) (wp_app L s x ho base v n cs hs hown ys hys h1 hob hx hl hbase fun v' w' h1 h2 h3 => hK _ _ (h v' w' h1 h2 h3))
end Go.Proofs.YtcjhenfofekofaaGreatDoor
