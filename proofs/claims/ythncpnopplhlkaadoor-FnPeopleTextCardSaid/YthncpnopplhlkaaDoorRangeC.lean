/-
  A range over a function whose iterator keeps its state in a cell of its own (a captured variable): what such an iterator owes, and the law for its caller, whose body goes on or returns.
-/
import Derived.RangeFuncWrites
import Derived.RangeFuncNested
import Derived.RangeFuncBox
namespace Go.Proofs.YthncpnopplhlkaaDoor
open Go Go.RowKit

/-- The loop's two blocks, laid at the end of w: its record, and the block for deferred calls. -/
def Books (w : World) (r : Loop) (W : World) : Prop := W.heap[w.heap.size + 1]? = some (.loop r) ∧ W.heap[w.heap.size]? = some (.deferred (some []))
section
variable {w W W' : World} {r r' : Loop}
theorem Books.start (r : Loop) : Books w r ((w.alloc (.deferred (some []))).alloc (.loop r)) := by
  have h1 := World.alloc_heap_new (w.alloc (.deferred (some []))) (.loop r)
  rw [World.size_alloc] at h1
  exact ⟨h1, (Below.heap_alloc _ _ _ (by simp)).trans (World.alloc_heap_new w _)⟩
theorem Books.lt (h : Books w r W) : w.heap.size + 1 < W.heap.size := (Array.getElem?_eq_some_iff.1 h.1).1
theorem Books.cell (h : Books w r W) {B : Nat} (hB : B < w.heap.size) (v : Value) : Books w r (W.setCell ⟨B, 0, none⟩ v) :=
  ⟨(Below.heap_setCell W ⟨B, 0, none⟩ v _ (by show w.heap.size + 1 ≠ B; omega)).trans h.1, (Below.heap_setCell W ⟨B, 0, none⟩ v _ (by show w.heap.size ≠ B; omega)).trans h.2⟩
theorem Books.put (h : Books w r W) (r' : Loop) : Books w r' (W.putObj (w.heap.size + 1) (.loop r')) := ⟨World.putObj_heap_same h.lt, (World.putObj_heap_other (by omega)).trans h.2⟩
theorem Books.round (h : Books w r W) (hk : KeepsFrom w.heap.size W W') : Books w r W' := ⟨hk.same _ _ (by omega) h.1 rfl, hk.same _ _ (Nat.le_refl _) h.2 rfl⟩
theorem Books.deferred (h : Books w r W) (o : Obj) : (W.putObj (w.heap.size + 1) o).heap[w.heap.size]? = some (.deferred (some [])) := (World.putObj_heap_other (by omega)).trans h.2
end

/-- What an iterator owes that keeps its state in the one cell of block B: for every loop body that lets this cell be. -/
def StateIter {α : Type} (n : Nat) (P : Program) (g : Nat) (lb : Array Value) (encs : α → Array Value) (B : Nat) (Kp : World → World → Prop) (S Sp : List α → Prop) (w : World) : Prop :=
  ∀ (l : Nat) (J Jx : List α → World → Prop) (W : World), Below w.heap.size w W → (∀ pre V v, J pre V → J pre (V.setCell ⟨B, 0, none⟩ v)) →
    (∀ pre x V, J pre V → YieldAt Fence.wide (n - 1) P l (encs x) V fun e V' => (e = .returned (.bool true) ∧ J (pre ++ [x]) V' ∧ Kp V V') ∨ (e = .returned (.bool false) ∧ Jx (pre ++ [x]) V')) →
    J [] W → CallsIn Fence.wide n P g (#[.func (.yield l) #[] #[]] ++ lb) W fun e V => (∃ v, e = .returned v) ∧ ((∃ xs, S xs ∧ J xs V) ∨ (∃ pre, Sp pre ∧ Jx pre V))

/-- How a round's body is left: it goes on, or it returns. -/
def bodyOut {α : Type} (B : Nat) (Kp : World → World → Prop) (I Ix : List α → World → Prop) (xs : List α) (W : World) : Exit → Act → World → Prop
  | .normal, _, V => KeepsFrom B W V ∧ Kp W V ∧ I xs V
  | .ret, _, V => KeepsFrom B W V ∧ Ix xs V
  | _, _, _ => False

/-- The law. -/
theorem range_state {α : Type} {n : Nat} {P : Program} {g : Operand} {ps : Array Tmp} {assign body : Code} {Q : Exit → Act → World → Prop} {a : Act} {w : World} {gf : Nat} {lb : Array Value} (hg : a.eval g = .func (.func gf) #[] lb)
    (eg : ∀ args w, (callFunc gf args).run P w = .ok (.enter gf args) w) {encs : α → Array Value} {B : Nat} (hB : B < w.heap.size) {Kp : World → World → Prop} {S Sp : List α → Prop} (hseq : StateIter (n - 1) P gf lb encs B Kp S Sp w)
    (hKt : ∀ X Y Z, Kp X Y → Kp Y Z → Kp X Z) (hKb : ∀ (W : World) (o' : Obj), Kp W (W.putObj (w.heap.size + 1) o')) (hps : ∀ x, (encs x).size = ps.size)
    (I Ix : List α → World → Prop) (hI : OwnFrom w.heap.size I) (hIx : OwnFrom w.heap.size Ix) (hIs : ∀ pre W v, I pre W → I pre (W.setCell ⟨B, 0, none⟩ v)) (h0 : I [] w) (a₁ : α → Act)
    (hassign : ∀ (l : Nat) (x : α) (W : World) (K : Act → World → Prop), K (a₁ x) W →
      assign.wpIn (Fence.wide.inRound l) (n - 1 - 1) P (Exit.then K (fun _ _ _ => False)) { tmps := (ps.zip (encs x)).foldl (fun t (p, v) => t.setIfInBounds p v) a.tmps, defers := [] } W)
    (hbody : ∀ (l : Nat) (pre : List α) (x : α) (W : World), I pre W → body.wpIn (Fence.wide.inRound l) (n - 1 - 1) P (bodyOut w.heap.size Kp I Ix (pre ++ [x]) W) (a₁ x) W)
    (hdone : ∀ (D : Nat) (xs : List α) (W : World), w.heap.size ≤ D → S xs → I xs W → W.heap[D]? = some (.deferred (some [])) → Q .normal { a with defers := { target := .collected D, args := #[] } :: a.defers } W)
    (hstop : ∀ (D : Nat) (pre : List α) (W : World), w.heap.size ≤ D → Sp pre → Ix pre W → W.heap[D]? = some (.deferred (some [])) → Q .ret { a with defers := { target := .collected D, args := #[] } :: a.defers } W) :
    (Code.rangeFunc g ps assign body).wpIn Fence.wide n P Q a w := by
  refine wpIn_rangeFunc fun fn hfn => ?_
  let rc : LoopState → Option Code → Loop := fun st pe => { state := st, pending := pe, fn, tmps := a.tmps, params := ps, assign, body, defers := w.heap.size }
  obtain ⟨W1, hW1⟩ : ∃ W1, (w.alloc (.deferred (some []))).alloc (.loop (rc .ready none)) = W1 := ⟨_, rfl⟩
  have k1 : Books w (rc .ready none) W1 := by rw [← hW1]; exact Books.start _
  have i1 : I [] W1 := by rw [← hW1]; exact hI.alloc _ (hI.alloc _ h0)
  have b1 : Below w.heap.size w W1 := by rw [← hW1]; exact ((Below.refl _ w).alloc (Nat.le_refl _) _).alloc (by simp) _
  refine ⟨w.heap.size + 1, [{ target := .collected w.heap.size, args := #[] }], W1, { target := .fn (.func gf) lb, args := #[.func (.yield (w.heap.size + 1)) #[] #[]] }, W1, gf, #[.func (.yield (w.heap.size + 1)) #[] #[]] ++ lb, W1,
    by rw [← hW1]; exact run_enterLoop_outer _ _ _ _ _, by simp only [resolve, hg]; simp [go_sem], fun _ _ => trivial, by simp [invoke, go_sem, eg], fun hd => (by cases hd), ?_⟩
  refine (hseq (w.heap.size + 1) (fun pre V => I pre V ∧ Books w (rc .ready none) V) (fun pre V => Ix pre V ∧ Books w (rc .done (some .ret)) V) W1 b1 (fun pre V v h => ⟨hIs pre V v h.1, h.2.cell hB v⟩) ?_ ⟨i1, k1⟩).mono ?_
  · rintro pre x V ⟨hi, hk⟩
    refine ⟨fn, _, assign, body, run_yield (P := P) (args := encs x) hk.1 (hps x), roundIn_of_wpIn hfn (hassign _ x V _ ⟨_, run_beginRound hk.1 rfl, ?_⟩)⟩
    have kb := hk.put { rc .ready none with state := .busy }
    have hip : I pre (V.putObj (w.heap.size + 1) (.loop { rc .ready none with state := .busy })) := hI.putObj _ hi (by omega) hk.1 rfl
    refine wpIn_mono (hbody _ pre x _ hip) ?_
    rintro e a3 V3 hp
    cases e with
    | normal =>
      obtain ⟨hk3, hkp, hi3⟩ := hp
      have k3 := kb.round hk3
      refine ⟨_, _, run_endRound (P := P) none k3.1, .inl ⟨rfl, ⟨hI.putObj _ hi3 (by omega) k3.1 rfl, k3.put _⟩, hKt _ _ _ (hKt _ _ _ (hKb V _) hkp) (hKb V3 _)⟩⟩
    | ret =>
      obtain ⟨hk3, hi3⟩ := hp
      have k3 := kb.round hk3
      exact ⟨_, _, run_endRound (P := P) (some .ret) k3.1, .inr ⟨rfl, hIx.putObj _ hi3 (by omega) k3.1 rfl, k3.put _⟩⟩
    | exit id => exact hp.elim
    | goto t => exact hp.elim
    | panic ch => exact hp.elim
    | outgrown => exact hp.elim
  · rintro e V2 ⟨⟨v, rfl⟩, ⟨xs, hS, hi, hk⟩ | ⟨pre, hSp, hi, hk⟩⟩
    · exact ⟨none, _, run_endLoop (P := P) hk.1 (by simp [rc]), hdone _ xs _ (Nat.le_refl _) hS (hI.putObj _ hi (by omega) hk.1 rfl) (hk.deferred _)⟩
    · exact ⟨some .ret, _, run_endLoop (P := P) hk.1 (by simp [rc]), wpIn_ret (hstop _ pre _ (Nat.le_refl _) hSp (hIx.putObj _ hi (by omega) hk.1 rfl) (hk.deferred _))⟩
end Go.Proofs.YthncpnopplhlkaaDoor
