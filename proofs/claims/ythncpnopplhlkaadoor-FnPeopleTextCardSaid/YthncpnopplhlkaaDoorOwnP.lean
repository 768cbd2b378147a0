/-
  Slices of numbers that a call makes itself: what is owned, and the law for an append of one number.
-/
import Derived.Test.YthncpnopplhlkaaDoorDrawP
set_option maxRecDepth 20000
namespace Go.Proofs.YthncpnopplhlkaaDoor
open Go.RowKit

/-- A slice of the call's own with these numbers. -/
def Own (w : World) (base : Nat) (v : Value) (zs : List Int) : Prop := w.ownsRow base 3 1 v zs.length (zs.map (Value.int .i64))

theorem Own.nil (w : World) (base : Nat) : Own w base (.slice none 0 0) [] := World.ownsRow_nil _ _ _ _

theorem Own.only {w w' : World} {base rb : Nat} {v : Value} {zs : List Int} (h : Own w base v zs) (ho : Only rb w w') (hb : rb < base) : Own w' base v zs := by
  refine World.ownsRow.kept (row := some rb) h ⟨ho.1, ho.2.1, ho.2.2.1, Nat.le_of_eq ho.2.2.2.1.symm, fun k _ hne => ho.2.2.2.2 k (fun e => hne (by rw [e]))⟩ ?_
  cases hv : v.ownBlock with
  | none => exact .inl rfl
  | some k =>
    have := h.lt k hv
    exact .inr (fun e => by injection e with e; omega)

theorem Own.row {w : World} {base : Nat} {v : Value} {zs : List Int} (h : Own w base v zs) : ∃ ao b cap, v = .slice ao zs.length cap ∧ zs.length ≤ cap ∧ cap ≤ 9223372036854775807 ∧ Row .i64 w ao b 0 zs ∧ (0 < zs.length → base ≤ b ∧ b < w.heap.size) ∧ (ao = none → cap = 0) := by
  rcases h.2 with ⟨rfl, h0⟩ | ⟨g, cap, cur, rfl, hb, hh, hn, hm, hs, ht⟩
  · have : zs = [] := List.length_eq_zero_iff.1 h0
    subst this
    exact ⟨none, 0, 0, rfl, Nat.le_refl _, by omega, Row.nil, fun h => absurd h (by simp), fun _ => rfl⟩
  · refine ⟨some ⟨g, 0, none⟩, g, cap, rfl, hn, by unfold maxLen at hm; omega, ⟨fun _ => rfl, fun i hi => ?_⟩, fun _ => ⟨hb, (Array.getElem?_eq_some_iff.1 hh).1⟩, fun h => by cases h⟩
    rw [Nat.zero_add]
    have := h
    unfold Own at this
    rw [World.ownsRow.cellAt this i (by omega), List.getElem?_map, List.getElem?_eq_getElem hi]
    simp [List.getD_eq_getElem?_getD, List.getElem?_eq_getElem hi]

theorem Own.kept {w w' : World} {base : Nat} {v : Value} {zs : List Int} {row : Option Nat} (h : Own w base v zs) (hg : w.grownBy w' row) (hne : ∀ k, row = some k → k < base ∨ w.heap.size ≤ k) : Own w' base v zs := by
  refine World.ownsRow.kept h hg ?_
  cases hv : v.ownBlock with
  | none => exact .inl rfl
  | some k =>
    have := h.lt k hv
    exact .inr (fun e => by have := hne k e.symm; omega)
theorem Own.mono {w : World} {base base' : Nat} {v : Value} {zs : List Int} (h : Own w base v zs) (hb : base' ≤ base) : Own w base' v zs := by
  refine ⟨h.1, ?_⟩
  rcases h.2 with h2 | ⟨g, cap, cur, hv, hg, r⟩
  · exact .inl h2
  · exact .inr ⟨g, cap, cur, hv, Nat.le_trans hb hg, r⟩
theorem Own.alloc {w : World} {base : Nat} {v : Value} {zs : List Int} (h : Own w base v zs) (o : Obj) : Own (w.alloc o) base v zs := World.ownsRow.alloc h o
theorem Own.drewN {w : World} {base : Nat} {v : Value} {zs : List Int} (h : Own w base v zs) (q : Nat) : Own (w.drewN q) base v zs := h
theorem Own.below {w w' : World} {base : Nat} {v : Value} {zs : List Int} (h : Own w base v zs) (hb : Below w.heap.size w w') : Own w' base v zs :=
  h.kept (row := none) ⟨hb.os, hb.tape, hb.output, hb.size, fun k hk _ => hb.block k hk⟩ (fun k e => by cases e)
theorem Own.lit {w : World} {base : Nat} (c : List Int) (hb : base ≤ w.heap.size) (hm : c.length ≤ 1000) : Own (w.alloc (.cells (c.map (Value.int .i64)).toArray 3)) base (.slice (some ⟨w.heap.size, 0, none⟩) c.length c.length) c := by
  have := World.ownsRow_lit (base := base) (e := 3) (size := 1) w (c.map (Value.int .i64)).toArray c.length hb (by unfold maxLen; omega) (by simp)
  unfold Own
  simpa using this

theorem cell1 (w : World) (v : Value) (t : TypeId) : (w.alloc (.cells #[v] t)).cell? ⟨w.heap.size, 0, none⟩ = some v := by rw [World.cell?_alloc_new]; rfl

theorem wpList_want {P : Program} {ops : Array Oper} {Q : Exit → Act → World → Prop} {a : Act} {w : World} {rest : List Oper} {o : Oper} (hw : Region.wanted o (yielded ops a.tmps) = true)
    (h : ∀ K : Act → World → Prop, (∀ a w, wpList P ops Q rest a w → K a w) → o.wp P a w K Q) : wpList P ops Q (o :: rest) a w :=
  wpList_step fun K hK => by rw [if_pos hw]; exact h K hK

/-- append of one number, which the statement has laid in a block of its own: w0 is the world ahead of that block. -/
theorem wp_app1 {o : Oper} {a : Act} {K : Act → World → Prop} {Q : Exit → Act → World → Prop} {w0 : World} {ob : Obj} (s x : Operand)
    (ho : o.op = .call { callee := .builtin .append, args := #[s, x], argTypes := #[48, 48] }) (base : Nat) (v : Value) (zs : List Int) (hs : a.eval s = v) (hown : Own w0 base v zs)
    (z : Int) (hob : ob = .cells #[.int .i64 z] 3) (hx : a.eval x = .slice (some ⟨w0.heap.size, 0, none⟩) 1 1) (hl : zs.length ≤ 1000000000) (hbase : base ≤ w0.heap.size)
    (h : ∀ v' w', Own w' base v' (zs ++ [z]) → Below base w0 w' → w0.grownBy w' v.ownBlock → K (a.put o.dst v') w') : o.wp Tryd.prog a (w0.alloc ob) K Q := by
  subst hob
  obtain ⟨i0, hi, hz0, hz1, hz2⟩ := info_parts Tryd.info3
  refine wp_append_own _ s x 48 ho base 3 i0 (.int .i64 0) 1 8 Tryd.underlying48 hi hz0 hz1 hz2 rfl (by decide) v zs.length _ hs (hown.alloc _) ⟨w0.heap.size, 0, none⟩ 1 1 [.int .i64 z] hx rfl ?_ ?_ ?_ ?_ (by simp; omega) ?_
  · intro j u hj
    match j, hj with
    | 0, hj => simp at hj; subst hj; simp [Addr.add]
  · intro u hu; simp at hu; subst hu; rfl
  · unfold maxLen; omega
  · omega
  · intro v' w' h1 h2 _
    have hsz := h2.size
    simp only [World.size_alloc] at hsz
    have hg : w0.grownBy w' v.ownBlock := ⟨h2.os, h2.tape, h2.output, by omega, fun k hk hne => (h2.block k (by simp; omega) hne).trans (Below.heap_alloc _ _ _ hk)⟩
    refine h v' w' ?_ ?_ hg
    · unfold Own
      simpa using h1
    · refine ⟨h2.os, h2.tape, h2.output, by omega, fun k hk => hg.block k (by omega) (fun e => ?_)⟩
      have := (hown.lt k e.symm).1
      omega

theorem wpList_app1 {ops : Array Oper} {rest : List Oper} {o : Oper} {a : Act} {Q : Exit → Act → World → Prop} {w0 : World} {ob : Obj} (hw : Region.wanted o (yielded ops a.tmps) = true) (s x : Operand)
    (ho : o.op = .call { callee := .builtin .append, args := #[s, x], argTypes := #[48, 48] }) (base : Nat) (v : Value) (zs : List Int) (hs : a.eval s = v) (hown : Own w0 base v zs)
    (z : Int) (hob : ob = .cells #[.int .i64 z] 3) (hx : a.eval x = .slice (some ⟨w0.heap.size, 0, none⟩) 1 1) (hl : zs.length ≤ 1000000000) (hbase : base ≤ w0.heap.size)
    (h : ∀ v' w', Own w' base v' (zs ++ [z]) → Below base w0 w' → w0.grownBy w' v.ownBlock → wpList Tryd.prog ops Q rest (a.put o.dst v') w') : wpList Tryd.prog ops Q (o :: rest) a (w0.alloc ob) :=
  wpList_want hw fun _ hK => wp_app1 s x ho base v zs hs hown z hob hx hl hbase fun v' w' h1 h2 h3 => hK _ _ (h v' w' h1 h2 h3)

/-- append of a whole slice. -/
theorem wp_appL {o : Oper} {a : Act} {K : Act → World → Prop} {Q : Exit → Act → World → Prop} {w : World} (s x : Operand)
    (ho : o.op = .call { callee := .builtin .append, args := #[s, x], argTypes := #[48, 48] }) (base : Nat) (v : Value) (zs : List Int) (hs : a.eval s = v) (hown : Own w base v zs)
    (ao : Option Addr) (b off cap : Nat) (ys : List Int) (hx : a.eval x = .slice ao ys.length cap) (hcap : ao = none → cap = 0) (hr : Row .i64 w ao b off ys) (hl : zs.length ≤ 1000000000) (hl2 : ys.length ≤ 1000000000) (hbase : base ≤ w.heap.size)
    (h : ∀ v' w', Own w' base v' (zs ++ ys) → Below base w w' → w.grownBy w' v.ownBlock → K (a.put o.dst v') w') : o.wp Tryd.prog a w K Q := by
  obtain ⟨i0, hi, hz0, hz1, hz2⟩ := info_parts Tryd.info3
  cases ao with
  | none =>
    have hy : ys = [] := by
      rcases Nat.eq_zero_or_pos ys.length with h0 | h0
      · exact List.length_eq_zero_iff.1 h0
      · have := hr.1 h0; cases this
    subst hy
    rw [hcap rfl] at hx
    have hrun := run_append_owned_none (P := Tryd.prog) (w := w) base 48 o.type 3 i0 1 Tryd.underlying48 hi v zs.length _ hown
    unfold Oper.wp
    simp only [List.length_nil] at hx
    simp [execOp, ho, resolve, invoke, builtin, hs, hx, hrun, Result.andThen]
    exact h v w (by rw [List.append_nil]; exact hown) (Below.refl _ _) ⟨rfl, rfl, rfl, Nat.le_refl _, fun _ _ _ => rfl⟩
  | some ad =>
    refine wp_append_own w s x 48 ho base 3 i0 (.int .i64 0) 1 8 Tryd.underlying48 hi hz0 hz1 hz2 rfl (by decide) v zs.length _ hs hown ad ys.length cap (ys.map (Value.int .i64)) hx (by simp) ?_ ?_ ?_ ?_ hbase ?_
    · intro j u hj
      rw [List.getElem?_map] at hj
      cases hy : ys[j]? with
      | none => rw [hy] at hj; simp at hj
      | some y =>
        rw [hy] at hj
        simp at hj
        subst hj
        obtain ⟨hj1, hj2⟩ := List.getElem?_eq_some_iff.1 hy
        have had := hr.1 (by omega)
        injection had with had
        subst had
        have := hr.2 j hj1
        rw [List.getD_eq_getElem?_getD, hy] at this
        rw [add_none]
        simpa using this
    · intro u hu
      obtain ⟨y, _, rfl⟩ := List.mem_map.1 hu
      rfl
    · unfold maxLen; omega
    · omega
    · intro v' w' h1 h2 _
      refine h v' w' ?_ ?_ h2
      · unfold Own
        simpa using h1
      · refine ⟨h2.os, h2.tape, h2.output, h2.size, fun k hk => h2.block k (by omega) (fun e => ?_)⟩
        have := (hown.lt k e.symm).1
        omega

theorem wpList_appL {ops : Array Oper} {rest : List Oper} {o : Oper} {a : Act} {Q : Exit → Act → World → Prop} {w : World} (hw : Region.wanted o (yielded ops a.tmps) = true) (s x : Operand)
    (ho : o.op = .call { callee := .builtin .append, args := #[s, x], argTypes := #[48, 48] }) (base : Nat) (v : Value) (zs : List Int) (hs : a.eval s = v) (hown : Own w base v zs)
    (ao : Option Addr) (b off cap : Nat) (ys : List Int) (hx : a.eval x = .slice ao ys.length cap) (hcap : ao = none → cap = 0) (hr : Row .i64 w ao b off ys) (hl : zs.length ≤ 1000000000) (hl2 : ys.length ≤ 1000000000) (hbase : base ≤ w.heap.size)
    (h : ∀ v' w', Own w' base v' (zs ++ ys) → Below base w w' → w.grownBy w' v.ownBlock → wpList Tryd.prog ops Q rest (a.put o.dst v') w') : wpList Tryd.prog ops Q (o :: rest) a w :=
  wpList_want hw fun _ hK => wp_appL s x ho base v zs hs hown ao b off cap ys hx hcap hr hl hl2 hbase fun v' w' h1 h2 h3 => hK _ _ (h v' w' h1 h2 h3)

/-- Only block rb, of what was there, has turned. -/
def Fr (rb : Nat) (w w' : World) : Prop := w.grownBy w' (some rb)

theorem Fr.refl (rb : Nat) (w : World) : Fr rb w w := ⟨rfl, rfl, rfl, Nat.le_refl _, fun _ _ _ => rfl⟩
theorem Fr.trans {rb : Nat} {a b c : World} (h : Fr rb a b) (k : Fr rb b c) : Fr rb a c :=
  ⟨k.os.trans h.os, k.tape.trans h.tape, k.output.trans h.output, Nat.le_trans h.size k.size, fun i hi hne => (k.block i (Nat.lt_of_lt_of_le hi h.size) hne).trans (h.block i hi hne)⟩
theorem Fr.only {rb : Nat} {a b c : World} (h : Fr rb a b) (k : Only rb b c) : Fr rb a c :=
  h.trans ⟨k.1, k.2.1, k.2.2.1, Nat.le_of_eq k.2.2.2.1.symm, fun i _ hne => k.2.2.2.2 i (fun e => hne (by rw [e]))⟩
theorem Fr.below {rb : Nat} {a b c : World} (h : Fr rb a b) (k : Below b.heap.size b c) : Fr rb a c :=
  h.trans ⟨k.os, k.tape, k.output, k.size, fun i hi _ => k.block i hi⟩
theorem Fr.alloc {rb : Nat} {a b : World} (h : Fr rb a b) (o : Obj) : Fr rb a (b.alloc o) := h.below ((Below.refl _ _).alloc (Nat.le_refl _) _)
theorem Fr.drewN {rb : Nat} {a b : World} (h : Fr rb a b) (q : Nat) : Fr rb a (b.drewN q) := ⟨h.os, h.tape, h.output, h.size, h.block⟩
theorem Fr.grown {rb : Nat} {a b c : World} {row : Option Nat} (h : Fr rb a b) (k : b.grownBy c row) (hr : ∀ i, row = some i → a.heap.size ≤ i) : Fr rb a c :=
  ⟨k.os.trans h.os, k.tape.trans h.tape, k.output.trans h.output, Nat.le_trans h.size k.size, fun i hi hne => (k.block i (Nat.lt_of_lt_of_le hi h.size) (fun e => by have := hr i e.symm; omega)).trans (h.block i hi hne)⟩
theorem Fr.toBelow {rb : Nat} {a b : World} (h : Fr rb a b) {B : Nat} (hB : B ≤ rb) (hS : B ≤ a.heap.size) : Below B a b :=
  ⟨h.os, h.tape, h.output, h.size, fun k hk => h.block k (by omega) (fun e => by injection e with e; omega)⟩

theorem Fr.base {rb : Nat} {a b c : World} (h : Fr rb a b) (k : Below a.heap.size b c) : Fr rb a c :=
  ⟨k.os.trans h.os, k.tape.trans h.tape, k.output.trans h.output, Nat.le_trans h.size k.size, fun i hi hne => (k.block i hi).trans (h.block i hi hne)⟩

theorem IsRd.kept {w w' : World} {rb : Nat} {p : Int} {row : Option Nat} (h : IsRd w rb p) (hg : w.grownBy w' row) (hr : ∀ i, row = some i → rb < i) : IsRd w' rb p := by
  have hlt := h.lt
  refine h.keep (B := rb + 1) ⟨hg.os, hg.tape, hg.output, hg.size, fun k hk => hg.block k (by omega) (fun e => by have := hr k e.symm; omega)⟩ (by omega)
theorem IsRd.alloc {w : World} {rb : Nat} {p : Int} (h : IsRd w rb p) (o : Obj) : IsRd (w.alloc o) rb p := h.keep ((Below.refl w.heap.size _).alloc (Nat.le_refl _) _) h.lt
theorem IsRd.drew {w : World} {rb : Nat} {p : Int} (h : IsRd w rb p) : IsRd w.drew rb p := h
theorem Fr.drew {rb : Nat} {a b : World} (h : Fr rb a b) : Fr rb a b.drew := ⟨h.os, h.tape, h.output, h.size, h.block⟩
theorem IsRd.drewN {w : World} {rb : Nat} {p : Int} (h : IsRd w rb p) (q : Nat) : IsRd (w.drewN q) rb p := h

end Go.Proofs.YthncpnopplhlkaaDoor
