/-
  A region that draws its order, inside a round of a range over a function: it is walked as anywhere.
-/
import Derived.OrdersIn
import Derived.StillTail
import Derived.StillTailTactics
import Derived.RangeFuncCalls
import Derived.TacticsIn
namespace Go.Proofs.YtcjhenfofekofaaGreatDoor
open Go

/-- Only the way on. -/
def only (K : Act → World → Prop) : Exit → Act → World → Prop
  | .normal, a, w => K a w
  | _, _, _ => False
theorem only_lets {K : Act → World → Prop} : ¬ LetsOut (only K) := fun ⟨_, _, h⟩ => h

theorem oper_round {o : Oper} {a : Act} {w : World} {P : Program} {n l0 : Nat} {K : Act → World → Prop} {Q : Act → World → Prop} (hnd : ∀ c, o.op ≠ .defer c) (h : o.wp P a w K (only Q)) : o.wpIn (Fence.wide.inRound l0) n P a w K (only Q) := by
  refine ⟨fun f _ => trivial, ?_⟩
  have e : o.semAt (Fence.wide.inRound l0).round a.eval = execOp a.eval o := Oper.semAt_some l0 _ _ hnd
  rw [e]
  unfold Oper.wp at h
  generalize (execOp a.eval o).run P w = r at h
  cases r with
  | ok x w' =>
    cases x <;> simp only [Oper.upon, Oper.uponIn] at h ⊢ <;> first
      | exact h
      | exact ⟨fun hd => (by cases hd), CallsIn.inRound l0 (callsIn_wide.2 h)⟩
      | skip
    rename_i row args
    refine ⟨fun hd => (by cases hd), fun c cs _ => ?_⟩
    obtain ⟨v, w'', h1, h2⟩ := h c cs
    exact ⟨v, w'', h1, stepsIn_wide.2 h2⟩
  | halt x w' => cases x <;> simp only [Oper.upon, Oper.uponIn] at h ⊢ <;> exact h

/-- An operation that does not end the walk, in a round. -/
theorem oper_in {o : Oper} {a : Act} {w : World} {P : Program} {n l0 : Nat} {K : Act → World → Prop} {Q : Exit → Act → World → Prop} (hnd : ∀ c, o.op ≠ .defer c) (h : o.wp P a w K (only fun _ _ => False)) : o.wpIn (Fence.wide.inRound l0) n P a w K Q := by
  obtain ⟨h1, h2⟩ := oper_round (n := n) (l0 := l0) hnd h
  refine ⟨h1, ?_⟩
  generalize (o.semAt (Fence.wide.inRound l0).round a.eval).run P w = r at h2
  cases r with
  | ok x w' =>
    cases x <;> simp only [Oper.uponIn] at h2 ⊢ <;> first
      | exact h2
      | (refine ⟨h2.1, CallsIn.mono h2.2 fun e w'' he => ?_⟩
         cases e with
         | returned v => exact he
         | panicked c => exact he.elim
         | outgrown => exact absurd he only_lets)
      | (refine ⟨h2.1, RoundIn.mono h2.2 fun e w'' he => ?_⟩
         cases e with
         | returned v => exact he
         | panicked c => exact he.elim
         | outgrown => exact absurd he only_lets)
  | halt x w' => cases x <;> simp only [Oper.uponIn] at h2 ⊢ <;> first | exact h2 | exact h2.elim

theorem any_round {ops : Array Oper} {P : Program} {md : Region.Mode} {n l0 : Nat} {Q : Act → World → Prop} (hnd : ∀ o ∈ ops, ∀ c, o.op ≠ .defer c) : ∀ (fuel : Nat) (listed : Array Bool) (a : Act) (w : World),
    wpAny P md ops (only Q) fuel listed a w → wpAnyIn (Fence.wide.inRound l0) n P md ops (only Q) fuel listed a w := by
  intro fuel
  induction fuel with
  | zero => intro listed a w h; exact h
  | succ fuel ih =>
    intro listed a w h
    refine ⟨h.1, fun i hi => ?_⟩
    have h2 := h.2 i hi
    unfold wpOp at h2
    unfold wpOpIn
    cases ho : ops[i]? with
    | none => rw [ho] at h2; exact ih _ _ _ h2
    | some o =>
      rw [ho] at h2
      simp only at h2 ⊢
      by_cases hw : Region.wanted o (yielded ops a.tmps) = true
      · rw [if_pos hw] at h2 ⊢
        rcases h2 with h2 | h2
        · exact Oper.wpIn_mono (fun a w => ih _ a w) (oper_round (hnd o (Array.mem_of_getElem? ho)) h2)
        · exact absurd h2.2 only_lets
      · rw [if_neg hw] at h2 ⊢
        exact ⟨fun f _ => trivial, ih _ _ _ h2⟩

def noDefer (ops : Array Oper) : Bool := ops.all fun o => match o.op with | .defer _ => false | _ => true
theorem noDefer_all {ops : Array Oper} (h : noDefer ops = true) : ∀ o ∈ ops, ∀ c, o.op ≠ .defer c := by
  intro o ho c e
  unfold noDefer at h
  rw [Array.all_eq_true'] at h
  have := h o ho
  rw [e] at this
  cases this

theorem region_round {id n l0 : Nat} {P : Program} {ops : Array Oper} {Q : Exit → Act → World → Prop} {a : Act} {w : World} (hm : P.follows .mixedOrders = true) (hnd : noDefer ops = true)
    (h : wpAny P .any ops (only (Q .normal)) ops.size (Array.replicate ops.size false) a { w with drawn := w.drawn + 1 }) : (Code.region id ops true).wpIn (Fence.wide.inRound l0) n P Q a w := by
  refine wpIn_mono (wpIn_region_any (Q := only (Q .normal)) hm (any_round (noDefer_all hnd) _ _ _ _ h)) fun e a w h => ?_
  cases e <;> first | exact h | exact h.elim

/-- Loads and numbers ahead of one store. -/
theorem region_round_tail {id n' l0 : Nat} {P : Program} {Q : Exit → Act → World → Prop} {a : Act} {w : World} {l : List Oper} (n : Nat) (hm : P.follows .mixedOrders = true) (hnd : noDefer l.toArray = true) (hB : Region.lexTailB .any l.toArray n = true)
    (h : wpStill P l.toArray { w with drawn := w.drawn + 1 } (fun a' => wpList P l.toArray (only (Q .normal)) (l.drop n) a' { w with drawn := w.drawn + 1 }) (l.take n) a) : (Code.region id l.toArray true).wpIn (Fence.wide.inRound l0) n' P Q a w := by
  simp only [Region.lexTailB, Bool.and_eq_true, decide_eq_true_eq] at hB
  obtain ⟨⟨⟨⟨hsel, hn⟩, hs⟩, hc⟩, hlex⟩ := hB
  have hn' : n < l.length := by simpa using hn
  have htl : (l.take n).length = n := by simp; omega
  have hdl : (l.drop n).length = l.toArray.size - n := by simp
  have inv0 : HeadInv .any l.toArray n (Array.replicate l.toArray.size false) :=
    ⟨by simp, fun j oj _ hl => (by rw [getD_replicate_false] at hl; cases hl), fun t _ ht => getD_in (by simpa using ht) (getD_replicate_false _ _)⟩
  have H := wpAnyL_lex (md := .any) (g := l.toArray.size - n) hsel hs hc hn (l.take n) 0 _ a (fun j hj => by
    have hj' : j < n := by rw [htl] at hj; exact hj
    simp [hj']) (by simpa using htl) inv0 (by rw [htl]; exact hlex) h
  refine region_round hm hnd ?_
  have := wpAny_of_head (Q' := only (Q .normal)) (g := l.toArray.size - n) (fun listed a' hL => by
    have := wpAny_of_seq (md := .any) (Q' := only (Q .normal)) (l.drop n) n listed a' { w with drawn := w.drawn + 1 } (fun j => by simp [List.getElem?_drop]) (by rw [hdl]; exact hL.1) hL.2
    rwa [hdl] at this) _ _ _ H
  rw [htl, show n + (l.toArray.size - n) = l.toArray.size by omega] at this
  exact this
end Go.Proofs.YtcjhenfofekofaaGreatDoor
