/-
  append of one element onto a slice of the call's own, whatever the element's size; slices of strings.
-/
import Derived.Test.YthncpnopplhlkaaDoorTab
namespace Go.Proofs.YthncpnopplhlkaaDoor
open Go.RowKit

/-- A slice type and its elements'. -/
structure Elt (T E : TypeId) (z : Value) (size bytes : Nat) : Prop where
  und : Tryd.prog.underlying T = some (.slice E)
  info : (Tryd.prog.info? E).map (fun i => (i.zero, i.size, i.bytes)) = some (some z, size, bytes)
  zs : z.cells.size = size
  pos : 0 < size
  small : bytes ≤ 1000

/-- append of one element, which the statement has laid in a block of its own: w0 is the world ahead of that block. -/
theorem wp_app {T E : TypeId} {z : Value} {size bytes : Nat} (L : Elt T E z size bytes) {o : Oper} {a : Act} {K : Act → World → Prop} {Q : Exit → Act → World → Prop} {w0 : World} {ob : Obj} (s x : Operand)
    (ho : o.op = .call { callee := .builtin .append, args := #[s, x], argTypes := #[T, T] }) (base : Nat) (v : Value) (n : Nat) (cs : List Value) (hs : a.eval s = v) (hown : w0.ownsRow base E size v n cs)
    (ys : List Value) (hys : ys.length = size) (h1 : ∀ u ∈ ys, u.oneCell' = true) (hob : ob = .cells ys.toArray E) (hx : a.eval x = .slice (some ⟨w0.heap.size, 0, none⟩) 1 1) (hl : n ≤ 1000000000) (hbase : base ≤ w0.heap.size)
    (h : ∀ v' w', w'.ownsRow base E size v' (n + 1) (cs ++ ys) → Below base w0 w' → w0.grownBy w' v.ownBlock → K (a.put o.dst v') w') : o.wp Tryd.prog a (w0.alloc ob) K Q := by
  subst hob
  obtain ⟨i0, hi, hz0, hz1, hz2⟩ := info_parts L.info
  have hsm := L.small
  refine wp_append_own _ s x T ho base E i0 z size bytes L.und hi hz0 hz1 hz2 L.zs L.pos v n _ hs (World.ownsRow.alloc hown _) ⟨w0.heap.size, 0, none⟩ 1 1 ys hx (by rw [hys, Nat.one_mul]) ?_ h1 ?_ ?_ (by simp; omega) ?_
  · intro j u hj
    rw [add_none, Nat.zero_add, World.cell?_alloc_new]
    simpa using hj
  · unfold maxLen; omega
  · calc (n + 1) * bytes ≤ (n + 1) * 1000 := Nat.mul_le_mul_left _ hsm
      _ ≤ _ := by omega
  · intro v' w' h1 h2 _
    have hsz := h2.size
    simp only [World.size_alloc] at hsz
    have hg : w0.grownBy w' v.ownBlock := ⟨h2.os, h2.tape, h2.output, by omega, fun k hk hne => (h2.block k (by simp; omega) hne).trans (Below.heap_alloc _ _ _ hk)⟩
    refine h v' w' h1 ?_ hg
    refine ⟨h2.os, h2.tape, h2.output, by omega, fun k hk => hg.block k (by omega) (fun e => ?_)⟩
    have := (World.ownsRow.lt hown k e.symm).1
    omega

theorem wpList_app {T E : TypeId} {z : Value} {size bytes : Nat} (L : Elt T E z size bytes) {ops : Array Oper} {rest : List Oper} {o : Oper} {a : Act} {Q : Exit → Act → World → Prop} {w0 : World} {ob : Obj} (hw : Region.wanted o (yielded ops a.tmps) = true) (s x : Operand)
    (ho : o.op = .call { callee := .builtin .append, args := #[s, x], argTypes := #[T, T] }) (base : Nat) (v : Value) (n : Nat) (cs : List Value) (hs : a.eval s = v) (hown : w0.ownsRow base E size v n cs)
    (ys : List Value) (hys : ys.length = size) (h1 : ∀ u ∈ ys, u.oneCell' = true) (hob : ob = .cells ys.toArray E) (hx : a.eval x = .slice (some ⟨w0.heap.size, 0, none⟩) 1 1) (hl : n ≤ 1000000000) (hbase : base ≤ w0.heap.size)
    (h : ∀ v' w', w'.ownsRow base E size v' (n + 1) (cs ++ ys) → Below base w0 w' → w0.grownBy w' v.ownBlock → wpList Tryd.prog ops Q rest (a.put o.dst v') w') : wpList Tryd.prog ops Q (o :: rest) a (w0.alloc ob) :=
  wpList_want hw fun _ hK => wp_app L s x ho base v n cs hs hown ys hys h1 hob hx hl hbase fun v' w' h1 h2 h3 => hK _ _ (h v' w' h1 h2 h3)

/-- The same, the new block's number by a name of its own. -/
theorem wpList_appH {T E : TypeId} {z : Value} {size bytes : Nat} (L : Elt T E z size bytes) {ops : Array Oper} {rest : List Oper} {o : Oper} {a : Act} {Q : Exit → Act → World → Prop} {w0 : World} {ob : Obj} (hw : Region.wanted o (yielded ops a.tmps) = true) (s x : Operand)
    (ho : o.op = .call { callee := .builtin .append, args := #[s, x], argTypes := #[T, T] }) (base : Nat) (v : Value) (n : Nat) (cs : List Value) (hs : a.eval s = v) (hown : w0.ownsRow base E size v n cs)
    (ys : List Value) (hys : ys.length = size) (h1 : ∀ u ∈ ys, u.oneCell' = true) (hob : ob = .cells ys.toArray E) (H : Nat) (hH : H = w0.heap.size) (hx : a.eval x = .slice (some ⟨H, 0, none⟩) 1 1) (hl : n ≤ 1000000000) (hbase : base ≤ w0.heap.size)
    (h : ∀ v' w', w'.ownsRow base E size v' (n + 1) (cs ++ ys) → Below base w0 w' → w0.grownBy w' v.ownBlock → wpList Tryd.prog ops Q rest (a.put o.dst v') w') : wpList Tryd.prog ops Q (o :: rest) a (w0.alloc ob) := by
  subst hH
  exact wpList_app L hw s x ho base v n cs hs hown ys hys h1 hob hx hl hbase h

theorem orow_below {w w' : World} {base size n : Nat} {e : TypeId} {v : Value} {cs : List Value} (h : w.ownsRow base e size v n cs) (hb : Below w.heap.size w w') : w'.ownsRow base e size v n cs := by
  refine World.ownsRow.kept (row := none) h ⟨hb.os, hb.tape, hb.output, hb.size, fun k hk _ => hb.block k hk⟩ ?_
  cases hv : v.ownBlock with
  | none => exact .inl rfl
  | some k => exact .inr (fun e => by cases e)
/-- The cells of a slice of the call's own. -/
theorem orow_cells {w : World} {base size n : Nat} {e : TypeId} {v : Value} {cs : List Value} (h : w.ownsRow base e size v n cs) :
    ∃ ao b cap, v = .slice ao n cap ∧ n ≤ cap ∧ cap ≤ 9223372036854775807 ∧ (0 < n → ao = some ⟨b, 0, none⟩ ∧ base ≤ b ∧ b < w.heap.size) ∧ ∀ i u, cs[i]? = some u → w.cell? ⟨b, i, none⟩ = some u := by
  have hh := h
  rcases h.2 with ⟨rfl, h0⟩ | ⟨g, cap, cur, rfl, hb, hh, hn, hm, hs, ht⟩
  · refine ⟨none, 0, 0, by rw [h0], by omega, by omega, fun hp => absurd hp (by omega), fun i u hu => ?_⟩
    have hl := h.1
    rw [h0, Nat.zero_mul] at hl
    have : cs = [] := List.length_eq_zero_iff.1 hl
    subst this
    simp at hu
  · refine ⟨some ⟨g, 0, none⟩, g, cap, rfl, hn, by unfold maxLen at hm; omega, fun _ => ⟨rfl, hb, (Array.getElem?_eq_some_iff.1 hh).1⟩, fun i u hu => ?_⟩
    have := World.ownsRow.cells (g := g) h rfl i u hu
    rw [add_none, Nat.zero_add] at this
    exact this

/-- Strings that are only read. -/
def RowS (w : World) (ao : Option Addr) (b off : Nat) (ss : List ByteArray) : Prop :=
  (0 < ss.length → ao = some ⟨b, off, none⟩) ∧ ∀ i, i < ss.length → w.cell? ⟨b, off + i, none⟩ = some (.string (ss.getD i ⟨#[]⟩))
theorem RowS.keep {w w' : World} {ao : Option Addr} {b off : Nat} {xs : List ByteArray} (h : RowS w ao b off xs) {B : Nat} (hb : Below B w w') (hB : w.heap.size ≤ B) : RowS w' ao b off xs :=
  ⟨h.1, fun i hi => by
    have h0 := h.2 i hi
    have hlt := World.block_lt_of_cell? _ _ h0
    rw [hb.cell (p := ⟨b, off + i, none⟩) (Nat.lt_of_lt_of_le hlt hB)]; exact h0⟩
/-- A slice of strings of the call's own. -/
def OwnS (w : World) (base : Nat) (v : Value) (ss : List ByteArray) : Prop := w.ownsRow base 9 1 v ss.length (ss.map Value.string)
theorem OwnS.below {w w' : World} {base : Nat} {v : Value} {ss : List ByteArray} (h : OwnS w base v ss) (hb : Below w.heap.size w w') : OwnS w' base v ss := orow_below h hb
theorem OwnS.row {w : World} {base : Nat} {v : Value} {ss : List ByteArray} (h : OwnS w base v ss) : ∃ ao b cap, v = .slice ao ss.length cap ∧ ss.length ≤ cap ∧ cap ≤ 9223372036854775807 ∧ RowS w ao b 0 ss := by
  obtain ⟨ao, b, cap, hv, h1, h2, h3, h4⟩ := orow_cells h
  refine ⟨ao, b, cap, hv, h1, h2, fun hp => (h3 hp).1, fun i hi => ?_⟩
  rw [Nat.zero_add]
  refine h4 i _ ?_
  rw [List.getElem?_map, List.getElem?_eq_getElem hi]
  simp [List.getD_eq_getElem?_getD, List.getElem?_eq_getElem hi]
theorem eltS : Elt 64 9 (.string ⟨#[]⟩) 1 16 := ⟨Tryd.underlying64, by kernel_rfl, rfl, by decide, by decide⟩
end Go.Proofs.YthncpnopplhlkaaDoor
