/-
  Contract: impl.numbersFrom, at most four numbers.
-/
import Derived.Test.YtcjhenfofekofaaGreatDoorJ3
import Derived.Test.YtcjhenfofekofaaGreatDoorYGrowIn
import Derived.Test.YtcjhenfofekofaaGreatDoorJ4
import Derived.Test.YtcjhenfofekofaaGreatDoorJ1
namespace Go.Proofs.YtcjhenfofekofaaGreatDoor
open Go.RowKit Go.Shelf
open Go.ParseMath (cutL okI valI lineOk lineV)
attribute [local go_sem] Oper.semAt_some

def bvals (xs : List ByteArray) : List Int := xs.map fun x => valI x.data.toList
theorem bvals_snoc (xs : List ByteArray) (x : ByteArray) : bvals (xs ++ [x]) = bvals xs ++ [valI x.data.toList] := by simp [bvals]
theorem bvals_len (xs : List ByteArray) : (bvals xs).length = xs.length := by simp [bvals]

theorem lineV_of (s : ByteArray) : bvals (cutB 32 s) = lineV s.data.toList := by
  unfold bvals cutB lineV
  rw [List.map_map]
  rfl
theorem lineOk_iff (s : ByteArray) : lineOk 4 s.data.toList = true ↔ (cutB 32 s).length ≤ 4 ∧ ∀ x ∈ cutB 32 s, okI x.data.toList = true := by
  unfold lineOk cutB
  rw [Bool.and_eq_true, decide_eq_true_eq, List.all_eq_true, List.length_map]
  refine and_congr_right fun _ => ⟨fun h x hx => ?_, fun h l hl => ?_⟩
  · obtain ⟨l, hl, rfl⟩ := List.mem_map.1 hx
    exact h l hl
  · exact h _ (List.mem_map.2 ⟨l, hl, rfl⟩)
theorem lineOk_of {s : ByteArray} (h1 : ∀ x ∈ cutB 32 s, okI x.data.toList = true) (h2 : (cutB 32 s).length ≤ 4) : lineOk 4 s.data.toList = true := (lineOk_iff s).2 ⟨h2, h1⟩
theorem lineOk_not {s : ByteArray} (h : (∃ x ∈ cutB 32 s, okI x.data.toList = false) ∨ 4 < (cutB 32 s).length) : lineOk 4 s.data.toList = false := by
  rw [Bool.eq_false_iff]
  intro hh
  obtain ⟨h1, h2⟩ := (lineOk_iff s).1 hh
  rcases h with ⟨x, hx, hf⟩ | h
  · rw [h2 x hx] at hf; cases hf
  · omega

/-- What a line's numbers come to. -/
def NumsP (l : List UInt8) (w : World) (e : Ending) (w' : World) : Prop :=
  ∃ v, e = .returned (.tuple #[v, .bool (lineOk 4 l)]) ∧ (lineOk 4 l = true → Own w' w.heap.size v (lineV l)) ∧ Below w.heap.size w w'

/-- Between two rounds. -/
def NumI (w : World) (pre : List ByteArray) (W : World) : Prop :=
  (∃ v, Boxed W (w.heap.size + 3) 50 v ∧ Own W (w.heap.size + 7) v (bvals pre)) ∧ ((∀ x ∈ pre, okI x.data.toList = true) ∧ pre.length ≤ 4) ∧
  (Boxed W w.heap.size 3 (.int .i64 4) ∧ Boxed W (w.heap.size + 1) 50 (.slice none 0 0) ∧ Boxed W (w.heap.size + 2) 4 (.bool false)) ∧ Below w.heap.size w W ∧ w.heap.size + 7 ≤ W.heap.size
/-- A round has returned. -/
def NumX (w : World) (pre : List ByteArray) (W : World) : Prop :=
  (Boxed W (w.heap.size + 1) 50 (.slice none 0 0) ∧ Boxed W (w.heap.size + 2) 4 (.bool false)) ∧ ((∃ x ∈ pre, okI x.data.toList = false) ∨ 4 < pre.length) ∧ Below w.heap.size w W

theorem boxed_keptO {W W' : World} {row : Option Nat} {B : Nat} {t : TypeId} {v : Value} (h : Boxed W B t v) (hg : W.grownBy W' row) (hr : ∀ r, row = some r → ∃ o : Obj, W.heap[r]? = some o ∧ o.isCells = false) : Boxed W' B t v :=
  h.kept hg fun e' => by
    obtain ⟨o, ho, hc⟩ := hr B e'.symm
    rw [show W.heap[B]? = _ from h] at ho; cases ho; cases hc
theorem num_own {M : Nat} {w : World} {B : Nat} (hB : w.heap.size ≤ B) : OwnFrom B (fun (pre : List (Piece M)) W => NumI w (Piece.vals pre) W) := by
  rintro s A C row ⟨⟨v, hv, ho⟩, hp, ⟨h1, h2, h3⟩, hb, hs⟩ hg hr
  have hr' : ∀ r, row = some r → ∃ o : Obj, A.heap[r]? = some o ∧ o.isCells = false := fun r e => (hr r e).2
  exact ⟨⟨v, boxed_keptO hv hg hr', orow_keptO ho hg hr'⟩, hp, ⟨boxed_keptO h1 hg hr', boxed_keptO h2 hg hr', boxed_keptO h3 hg hr'⟩, ownFrom_below (β := Unit) (Nat.le_refl _) hB () A C row hb hg hr, Nat.le_trans hs hg.size⟩
theorem numX_own {M : Nat} {w : World} {B : Nat} (hB : w.heap.size ≤ B) : OwnFrom B (fun (pre : List (Piece M)) W => NumX w (Piece.vals pre) W) := by
  rintro s A C row ⟨⟨h2, h3⟩, hp, hb⟩ hg hr
  have hr' : ∀ r, row = some r → ∃ o : Obj, A.heap[r]? = some o ∧ o.isCells = false := fun r e => (hr r e).2
  exact ⟨⟨boxed_keptO h2 hg hr', boxed_keptO h3 hg hr'⟩, hp, ownFrom_below (β := Unit) (Nat.le_refl _) hB () A C row hb hg hr⟩

theorem ownsRow_one {w : World} {base n : Nat} {e : TypeId} {v : Value} {cs : List Value} (h : w.ownsRow base e 1 v (n + 1) cs) : ∃ g c, v = .slice (some ⟨g, 0, none⟩) (n + 1) c := by
  rcases h.2 with ⟨_, h0⟩ | ⟨g, cap, cur, hv, _⟩
  · omega
  · exact ⟨g, cap, hv⟩
theorem own_cells {w : World} {base e size n j : Nat} {v : Value} {cs : List Value} {o : Obj} (h : w.ownsRow base e size v n cs) (hv : v.ownBlock = some j) (ho : w.heap[j]? = some o) : o.isCells = true := by
  rcases h.2 with ⟨rfl, _⟩ | ⟨g, cap, cur, rfl, _, hgb, _⟩
  · cases hv
  · simp [Value.ownBlock] at hv
    subst hv
    rw [hgb] at ho
    cases ho
    rfl
theorem boxed_put {W : World} {B D : Nat} {t : TypeId} {v : Value} {o : Obj} (h : Boxed W B t v) (hne : B ≠ D) : Boxed (W.putObj D o) B t v := (World.putObj_heap_other hne).trans h
theorem below_others {W V : World} (h : Below W.heap.size W V) : KeepsOthers W V := ⟨h.size, fun k o hk _ => (h.block k (Array.getElem?_eq_some_iff.1 hk).1).trans hk⟩
theorem boxed_below {W V : World} (h : Below W.heap.size W V) {B : Nat} {t : TypeId} {v : Value} (hb : Boxed W B t v) : Boxed V B t v := (h.block B hb.lt).trans hb

end Go.Proofs.YtcjhenfofekofaaGreatDoor
