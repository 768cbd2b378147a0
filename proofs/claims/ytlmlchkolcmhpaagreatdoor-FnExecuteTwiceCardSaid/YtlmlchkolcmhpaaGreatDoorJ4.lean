/-
  Joined: Split, SplitS, Clone, Exec, Empty, MtOwn, TabOI, Scr, Line1, Dig, PLin, Mask, TextsM, Line4.
-/
import Derived.RangeFuncNested
import Derived.RangeFuncBound
import Derived.RangeFuncCalls
import Derived.RangeFuncLeaves
import Derived.Shelf.Abstract
import Derived.Shelf.RegionOpen
import Derived.WalkKit
import Derived.OwnWalkIn
import Derived.TacticsInMore
import Derived.LoopNIn
import Derived.LoopIn
import Derived.Lib.IndexLaws
import Derived.Test.YtlmlchkolcmhpaaGreatDoorJ1
import Derived.Test.YtlmlchkolcmhpaaGreatDoorYShelf
import Derived.Test.YtlmlchkolcmhpaaGreatDoorJ2
import Derived.Test.YtlmlchkolcmhpaaGreatDoorJ3
import Derived.Lib.Split
import Derived.Lib.IndexBytes
import Derived.Lib.SliceRun
import Derived.Lib.FrozenHead
import Derived.Lib.BufferKept
import Derived.RangeFuncBox
import Derived.StillTailTactics
import Derived.IntWalk
import Derived.Carry

section
/-
  Contract: strings.SplitSeq at a separator of one byte: its iterator hands over what lies between.
-/
namespace Go.Proofs.YtlmlchkolcmhpaaGreatDoor
open Go.RowKit Go.Shelf
open Go.ParseMath (cutL)
attribute [local go_sem] Oper.semAt_some

/-- The pieces. -/
def cutB (c : UInt8) (s : ByteArray) : List ByteArray := (cutL c s.data.toList).map fun l => ⟨l.toArray⟩

/-- Ahead of the first c, and behind it. -/
theorem cut_first {l : List UInt8} {c : UInt8} {o : Nat} (h : Lib.indexByte l c = o) : o < l.length ∧ cutL c l = l.take o :: cutL c (l.drop (o + 1)) := by
  obtain ⟨h1, h2⟩ := Lib.indexByte_some h
  have hlt : o < l.length := (List.getElem?_eq_some_iff.1 h1).1
  have e : l = l.take o ++ c :: l.drop (o + 1) := by
    have h3 := (List.getElem?_eq_some_iff.1 h1).2
    conv => lhs; rw [← List.take_append_drop o l, List.drop_eq_getElem_cons hlt, h3]
  have hn : c ∉ l.take o := fun hm => by
    obtain ⟨k, hk, e⟩ := List.getElem_of_mem hm
    rw [List.length_take] at hk
    rw [List.getElem_take] at e
    exact h2 k (by omega) (by rw [List.getElem?_eq_getElem (by omega), e])
  refine ⟨hlt, ?_⟩
  conv => lhs; rw [e]
  exact Go.ParseMath.cutL_at hn _
theorem cut_last {l : List UInt8} {c : UInt8} (h : Lib.indexByte l c = -1) : cutL c l = [l] := by
  refine Go.ParseMath.cutL_none fun hm => ?_
  obtain ⟨k, hk, e⟩ := List.getElem_of_mem hm
  exact Lib.indexByte_none h k (by rw [List.getElem?_eq_getElem hk, e])

theorem ex_list (r : ByteArray) (a b : Nat) : (r.extract a b).data.toList = (r.data.toList.take b).drop a := by
  simp only [ByteArray.data_extract, Array.toList_extract, List.extract_eq_take_drop]
  rw [List.take_drop]
  by_cases h : a ≤ b
  · rw [show a + (b - a) = b by omega]
  · rw [show a + (b - a) = a by omega, List.drop_of_length_le (by rw [List.length_take]; omega), List.drop_of_length_le (by rw [List.length_take]; omega)]
theorem cutB_first {r : ByteArray} {c : UInt8} {o : Nat} (h1 : o < r.data.toList.length) (h2 : cutL c r.data.toList = r.data.toList.take o :: cutL c (r.data.toList.drop (o + 1))) :
    cutB c r = r.extract 0 o :: cutB c (r.extract (o + 1) r.size) := by
  unfold cutB
  rw [h2, List.map_cons]
  congr 1
  · apply ByteArray.ext
    apply Array.toList_inj.1
    rw [ex_list]
    simp
  · rw [ex_list, List.take_of_length_le (by rw [Array.length_toList]; exact Nat.le_refl _)]

/-- What SplitSeq lays: the text, the separator, nothing more. -/
def SplitBoxes (W : World) (lo : Nat) (s : ByteArray) (c : UInt8) : Prop :=
  W.cell? ⟨lo, 0, none⟩ = some (.string s) ∧ W.frozen? ⟨lo, 0, none⟩ = false ∧ W.cell? ⟨lo + 1, 0, none⟩ = some (.string ⟨#[c]⟩) ∧ W.cell? ⟨lo + 2, 0, none⟩ = some (.int .i64 0)
/-- The three blocks are let be. -/
def KeepB (lo : Nat) (A B : World) : Prop := ∀ k, lo ≤ k → k < lo + 3 → B.heap[k]? = A.heap[k]?
theorem KeepB.refl (lo : Nat) (A : World) : KeepB lo A A := fun _ _ _ => rfl
theorem KeepB.trans {lo : Nat} {A B C : World} (h : KeepB lo A B) (k : KeepB lo B C) : KeepB lo A C := fun j h1 h2 => (k j h1 h2).trans (h j h1 h2)
theorem KeepB.boxes {lo : Nat} {A B : World} (h : KeepB lo A B) {s : ByteArray} {c : UInt8} (hb : SplitBoxes A lo s c) : SplitBoxes B lo s c := by
  obtain ⟨h1, h2, h3, h4⟩ := hb
  exact ⟨(World.cell?_of_block (h lo (by omega) (by omega))).trans h1, (World.frozen?_of_block (h lo (by omega) (by omega))).trans h2, (World.cell?_of_block (h (lo + 1) (by omega) (by omega))).trans h3, (World.cell?_of_block (h (lo + 2) (by omega) (by omega))).trans h4⟩

theorem SplitBoxes.set {W : World} {lo : Nat} {r : ByteArray} {c : UInt8} (h : SplitBoxes W lo r c) (r' : ByteArray) : SplitBoxes (W.setCell ⟨lo, 0, none⟩ (.string r')) lo r' c := by
  obtain ⟨h1, h2, h3, h4⟩ := h
  refine ⟨World.cell?_setCell_same' _ _ _ (by rw [h1]; rfl), by rw [World.frozen?_setCell]; exact h2, ?_, ?_⟩
  · exact (World.cell?_of_block (Below.heap_setCell W ⟨lo, 0, none⟩ _ (lo + 1) (by show lo + 1 ≠ lo; omega))).trans h3
  · exact (World.cell?_of_block (Below.heap_setCell W ⟨lo, 0, none⟩ _ (lo + 2) (by show lo + 2 ≠ lo; omega))).trans h4

/-- How much is left. -/
def leftS (lo : Nat) (W : World) : Nat := match W.cell? ⟨lo, 0, none⟩ with
  | some (.string r) => r.size
  | _ => 0
/-- A piece. -/
abbrev Piece (M : Nat) : Type := { x : ByteArray // x.size ≤ M }
def Piece.vals {M : Nat} (xs : List (Piece M)) : List ByteArray := xs.map Subtype.val
theorem Piece.vals_snoc {M : Nat} (xs : List (Piece M)) (x : Piece M) : Piece.vals (xs ++ [x]) = Piece.vals xs ++ [x.1] := by
  unfold Piece.vals
  rw [List.map_append]
  rfl
theorem KeepB.set {lo : Nat} {W : World} {a : Addr} {v : Value} (ha : a.block < lo ∨ lo + 3 ≤ a.block) : KeepB lo W (W.setCell a v) := fun k h1 h2 => Below.heap_setCell W a v k (by omega)
end Go.Proofs.YtlmlchkolcmhpaaGreatDoor
end

section
/-
  Contract: strings.Split at a text of one byte: the pieces between the bytes. Condition: some number lies in the run-time's cell.
-/
namespace Go.Proofs.YtlmlchkolcmhpaaGreatDoor
open Go.RowKit Go.Shelf
open Go.ParseMath (cutL)

theorem split_cut (c : UInt8) : ∀ (k : Nat) (s : ByteArray), Lib.countB s ⟨#[c]⟩ = k → Lib.splitB ⟨#[c]⟩ 0 k s = cutB c s := by
  have hone : ∀ s : ByteArray, Lib.indexB s ⟨#[c]⟩ = Lib.indexByte s.data.toList c := fun s => Lib.index_one _ _
  have hmiss : ∀ s : ByteArray, Lib.indexB s ⟨#[c]⟩ = -1 → cutB c s = [s] := fun s h => by
    rw [hone] at h
    unfold cutB
    rw [cut_last h]
    simp
  intro k
  induction k with
  | zero =>
    intro s h
    rcases Lib.indexB_cases s ⟨#[c]⟩ with h1 | ⟨i, h1, h2⟩
    · rw [Lib.splitB_zero, hmiss s h1]
    · have := Lib.countB_hit s ⟨#[c]⟩ i (Nat.le_refl _) h1
      omega
  | succ k ih =>
    intro s h
    rcases Lib.indexB_cases s ⟨#[c]⟩ with h1 | ⟨i, h1, h2⟩
    · have := Lib.countB_miss s ⟨#[c]⟩ h1
      omega
    · have h3 := Lib.countB_hit s ⟨#[c]⟩ i (Nat.le_refl _) h1
      rw [Lib.splitB_hit _ _ _ _ _ h1]
      have h4 := h1
      rw [hone] at h4
      obtain ⟨h5, h6⟩ := cut_first h4
      have e : (⟨#[c]⟩ : ByteArray).size = 1 := rfl
      rw [e] at h3 ⊢
      rw [ih _ (by omega), cutB_first h5 h6]
      rfl
theorem cutB_len (c : UInt8) (s : ByteArray) : (cutB c s).length = Lib.countB s ⟨#[c]⟩ + 1 := by
  rw [← split_cut c _ s rfl]
  exact Lib.splitB_all _ (Nat.le_refl _) 0 _ s rfl
end Go.Proofs.YtlmlchkolcmhpaaGreatDoor
end

section
/-
  Contract: slices.Clone of people; (*impl.script).become.
-/
namespace Go.Proofs.YtlmlchkolcmhpaaGreatDoor
open Go.RowKit

theorem pc_len (L : List Per) : (pc L).length = L.length * 4 := by
  induction L with
  | nil => rfl
  | cons p L ih => simp [pc, ih]; omega
theorem pc_one (L : List Per) : ∀ u ∈ pc L, u.oneCell' = true := by
  induction L with
  | nil => intro u hu; simp [pc] at hu
  | cons p L ih =>
    intro u hu
    simp only [pc, List.cons_append, List.nil_append, List.mem_cons] at hu
    rcases hu with rfl | rfl | rfl | rfl | hu
    · rfl
    · rfl
    · rfl
    · rfl
    · exact ih u hu
theorem ppl_cells {w : World} {ao : Option Addr} {b off : Nat} {L : List Per} (h : Ppl w ao b off L) (j : Nat) (u : Value) (hu : (pc L)[j]? = some u) : w.cell? ⟨b, off + j, none⟩ = some u := by
  have hj : j < L.length * 4 := by rw [← pc_len]; exact (List.getElem?_eq_some_iff.1 hu).1
  obtain ⟨h0, h1, h2, h3⟩ := pc_get L (j / 4) (by omega)
  obtain ⟨c0, c1, c2, c3⟩ := h.2 (j / 4) (by omega)
  have hm : j % 4 = 0 ∨ j % 4 = 1 ∨ j % 4 = 2 ∨ j % 4 = 3 := by omega
  rcases hm with hm | hm | hm | hm
  · have e : j = j / 4 * 4 := by omega
    rw [e] at hu ⊢
    rw [h0] at hu
    rw [← hu]; exact c0
  · have e : j = j / 4 * 4 + 1 := by omega
    rw [e] at hu ⊢
    rw [h1] at hu
    rw [← hu, ← Nat.add_assoc]; exact c1
  · have e : j = j / 4 * 4 + 2 := by omega
    rw [e] at hu ⊢
    rw [h2] at hu
    rw [← hu, ← Nat.add_assoc]; exact c2
  · have e : j = j / 4 * 4 + 3 := by omega
    rw [e] at hu ⊢
    rw [h3] at hu
    rw [← hu, ← Nat.add_assoc]; exact c3

set_option maxHeartbeats 1000000 in
set_option maxRecDepth 100000 in
theorem cloneP (ao : Option Addr) (b cap : Nat) (L : List Per) (w : World) (hr : Ppl w ao b 0 L) (h40 : L.length ≤ 1000) (hc : L.length ≤ cap) (hn : ao = none → cap = 0) :
    Calls Tryz.prog 36 #[.slice ao L.length cap] w fun e w' => ∃ v, e = .returned v ∧ OwnPpl w' w.heap.size v L ∧ Below w.heap.size w w' := by
  have q22 : ∀ (w : World) (a : Option Addr) (n c n' c' : Nat), (binOp .eql 27 (.slice a n c) (.slice none n' c')).run Tryz.prog w = .ok (.bool a.isNone) w := fun w a n c n' c' => Lib.run_eql_slice_nil w _ _ a n c n' c' Tryz.underlying27
  have HR := Lib.hid hr
  clear hr
  cases ao with
  | none =>
    obtain rfl := hn rfl
    obtain rfl : L = [] := List.eq_nil_of_length_eq_zero (by omega)
    clear hn
    go_enter Tryz.func36, Tryz.ntmps36
    go_wp2_with fail
    go_ret
    exact ⟨_, rfl, World.ownsRow_nil _ _ _ _, Below.refl _ _⟩
  | some ad =>
    clear hn
    obtain ⟨i0, hi, hz0, hz1, hz2⟩ := info_parts eltP.info
    have HN : Hid (OwnPpl (w.alloc (.cells #[] 69)) w.heap.size (.slice (some ⟨w.heap.size, 0, none⟩) 0 0) []) := by
      have := World.ownsRow_lit (base := w.heap.size) (e := 69) (size := 4) w #[] 0 (Nat.le_refl _) (by unfold maxLen; omega) (by simp)
      show OwnPpl _ _ _ _
      simpa [OwnPpl, pc] using this
    have HI := Lib.hid hi
    have HZ0 := Lib.hid hz0
    have HZ1 := Lib.hid hz1
    have HZ2 := Lib.hid hz2
    have hb1 := (Below.refl w.heap.size w).alloc (Nat.le_refl _) (.cells #[] 69)
    have HB1 := Lib.hid hb1
    have HC := Lib.hid (show ∀ j u, (pc L)[j]? = some u → (w.alloc (.cells #[] 69)).cell? (ad.add j) = some u from fun j u hu => by
      have hj : 0 < L.length := by have h1 := (List.getElem?_eq_some_iff.1 hu).1; rw [pc_len] at h1; omega
      have e := HR.out.1 hj
      injection e with e
      subst e
      have h2 := ppl_cells (HR.out.keep HB1.out (Nat.le_refl _)) j u hu
      rw [Addr.add_lit]
      exact h2)
    have h1 : Hid ((pc L).length = L.length * 4) := Lib.hid (pc_len L)
    have hle : Hid (L.length ≤ 1000) := Lib.hid h40
    clear hi hz0 hz1 hz2 hb1
    go_enter Tryz.func36, Tryz.ntmps36
    go_wp2_with (at_builtin; refine wpList_append_own _ rfl (.tmp 5) (.tmp 6) _ rfl w.heap.size 69 i0 _ 4 32 eltP.und HI.out HZ0.out HZ1.out HZ2.out eltP.zs eltP.pos _ 0 [] rfl HN.out ad L.length cap (pc L) rfl h1.out HC.out (pc_one L) (by have := hle.out; unfold maxLen; omega) (by have := hle.out; omega) (by simp) ?_)
    intro v' w2 ho2 hg2 _
    have HO2 := Lib.hid (show OwnPpl w2 w.heap.size v' L by unfold OwnPpl; simpa using ho2)
    have HB2 := Lib.hid (HB1.out.trans (show Below w.heap.size (w.alloc (.cells #[] 69)) w2 from below_grown hg2 (Nat.le_refl _) (by simp)))
    clear ho2 hg2
    go_wp2_with fail
    go_ret
    exact ⟨_, rfl, HO2.out, HB2.out⟩

set_option maxRecDepth 100000 in
theorem become_t (blk : Nat) (v v0 : Value) (w : World) (hb : Boxed w blk 34 v0) (ao : Option Addr) (n cap : Nat) (hv : v = .slice ao n cap) :
    Calls Tryz.prog 37 #[.pointer (some ⟨blk, 0, none⟩), v, .bool true] w fun e w' => e = .returned (.tuple #[.string ⟨#[111, 107, 10]⟩, .bool true]) ∧ w' = w.setCell ⟨blk, 0, none⟩ v := by
  subst hv
  have h1 := hb.cell
  have h2 := hb.frozen
  clear hb
  go_enter Tryz.func37, Tryz.ntmps37
  go_wp2_with fail
  go_ret2
  exact ⟨rfl, rfl⟩
set_option maxRecDepth 100000 in
theorem become_f (blk : Nat) (v : Value) (w : World) :
    Calls Tryz.prog 37 #[.pointer (some ⟨blk, 0, none⟩), v, .bool false] w fun e w' => e = .returned (.tuple #[.string ⟨#[111, 107, 10]⟩, .bool false]) ∧ w' = w := by
  go_enter Tryz.func37, Tryz.ntmps37
  go_wp2_with fail
  go_ret2
  exact ⟨rfl, rfl⟩
theorem ownp_snoc {w : World} {base : Nat} {v : Value} {L : List Per} {y0 y1 y2 y3 : Int} (h : w.ownsRow base 69 4 v (L.length + 1) (pc L ++ [.int .i64 y0, .int .i64 y1, .int .i64 y2, .int .i64 y3])) : OwnPpl w base v (L ++ [⟨y0, y1, y2, y3⟩]) := by
  unfold OwnPpl
  rw [pc_snoc, List.length_append, List.length_singleton]
  exact h
/-- A literal of one row. -/
theorem tab_lit {X : Array Value} {xs : List Int} (w : World) (hX : X = (xs.map (Value.int .i64)).toArray) (hl : xs.length ≤ 1000) {n : Nat} (hn : n = xs.length) :
    Tab .i64 ((w.alloc (.cells X 3)).alloc (.cells #[.slice (some ⟨w.heap.size, 0, none⟩) n n] 53)) (some ⟨w.heap.size + 1, 0, none⟩) (w.heap.size + 1) 0 [xs] := by
  subst hX hn
  refine ⟨fun _ => rfl, fun i hi => ?_⟩
  obtain rfl : i = 0 := by simp at hi; omega
  have hs : (w.alloc (.cells (xs.map (Value.int .i64)).toArray 3)).heap.size = w.heap.size + 1 := by simp
  refine ⟨some ⟨w.heap.size, 0, none⟩, w.heap.size, 0, xs.length, ?_, ⟨fun _ => rfl, fun j hj => ?_⟩, Nat.le_refl _, by show xs.length ≤ _; omega⟩
  · have := World.cell?_alloc_new (w.alloc (.cells (xs.map (Value.int .i64)).toArray 3)) #[.slice (some ⟨w.heap.size, 0, none⟩) xs.length xs.length] 53 0
    rw [hs] at this
    exact this
  · have hb := (Below.refl (w.heap.size + 1) (w.alloc (.cells (xs.map (Value.int .i64)).toArray 3))).alloc (by rw [hs]; exact Nat.le_refl _) (.cells #[.slice (some ⟨w.heap.size, 0, none⟩) xs.length xs.length] 53)
    refine (hb.cell (p := ⟨w.heap.size, 0 + j, none⟩) (Nat.lt_succ_self _)).trans ?_
    rw [Nat.zero_add, World.cell?_alloc_new]
    simp only [List.getD_cons_zero] at hj ⊢
    simp [List.getD_eq_getElem?_getD, List.getElem?_eq_getElem hj]
theorem tab_lit2 (w : World) (m p : Int) : Tab .i64 ((w.alloc (.cells #[.int .i64 m, .int .i64 p] 3)).alloc (.cells #[.slice (some ⟨w.heap.size, 0, none⟩) 2 2] 53)) (some ⟨w.heap.size + 1, 0, none⟩) (w.heap.size + 1) 0 [[m, p]] := tab_lit w rfl (by simp) rfl
theorem tab_lit3 (w : World) (m p q : Int) : Tab .i64 ((w.alloc (.cells #[.int .i64 m, .int .i64 p, .int .i64 q] 3)).alloc (.cells #[.slice (some ⟨w.heap.size, 0, none⟩) 3 3] 53)) (some ⟨w.heap.size + 1, 0, none⟩) (w.heap.size + 1) 0 [[m, p, q]] := tab_lit w rfl (by simp) rfl
theorem three {xs : List Int} (h : xs.length = 3) : ∃ y0 y1 y2, xs = [y0, y1, y2] := by
  match xs, h with
  | [a, b, c], _ => exact ⟨a, b, c, rfl⟩
theorem four {xs : List Int} (h : xs.length = 4) : ∃ y0 y1 y2 y3, xs = [y0, y1, y2, y3] := by
  match xs, h with
  | [a, b, c, d], _ => exact ⟨a, b, c, d, rfl⟩
theorem lit_cell (W : World) {y0 y1 y2 y3 : Int} {j : Nat} {u : Value} (hu : [Value.int .i64 y0, .int .i64 y1, .int .i64 y2, .int .i64 y3][j]? = some u) : (W.alloc (.cells #[.int .i64 y0, .int .i64 y1, .int .i64 y2, .int .i64 y3] 69)).cell? (Addr.add ⟨W.heap.size, 0, none⟩ j) = some u := by
  rw [Addr.add_lit, Nat.zero_add, World.cell?_alloc_new]
  simpa using hu
theorem below_own {w w' : World} {base size n : Nat} {e : TypeId} {v : Value} {cs : List Value} (ho : w.ownsRow base e size v n cs) (hg : w.grownBy w' v.ownBlock) (hB : base ≤ w.heap.size) : Below base w w' :=
  ⟨hg.os, hg.tape, hg.output, hg.size, fun k hk => hg.block k (by omega) fun e => by have := (World.ownsRow.lt ho k e.symm).1; omega⟩
/-- The new state. -/
theorem Sc.set {w : World} {blk : Nat} {L : List Per} {v0 v : Value} (hb : Boxed w blk 34 v0) (ho : OwnPpl w (blk + 1) v L) : Sc (w.setCell ⟨blk, 0, none⟩ v) blk L := by
  refine ⟨v, hb.set v, World.ownsRow.kept (row := some blk) ho (grownBy_setCell' w blk v) ?_⟩
  cases hv : v.ownBlock with
  | none => exact .inl rfl
  | some k =>
    have := (World.ownsRow.lt ho k hv).1
    exact .inr fun e => by injection e with e; omega
end Go.Proofs.YtlmlchkolcmhpaaGreatDoor
end

section
/-
  Contract: impl.Execute, of scripts whose lines are of kinds that are known to do what they should.
-/
namespace Go.Proofs.YtlmlchkolcmhpaaGreatDoor
open Go.RowKit
open Go.TextMath (tvB mvB text word)
open Go.ParseMath

/-- The output so far: the builder lies in block b. -/
def Bld (w : World) (b : Nat) (out : List UInt8) : Prop := Lib.IsBuilderF 37 5 b b (Lib.byteCells out) w
theorem Bld.fr {w w' : World} {b blk : Nat} {out : List UInt8} (h : Bld w b out) (hf : w.grownBy w' (some blk)) (hb : blk < b) : Bld w' b out := by
  have key : ∀ p, Lib.BuilderAtF 37 5 b b p (Lib.byteCells out) w → Lib.BuilderAtF 37 5 b b p (Lib.byteCells out) w' := fun p hp => by
    have hlt := Lib.BuilderAtF.lt hp
    obtain ⟨h1, v, h2, h3, h4⟩ := hp
    refine ⟨h1, v, (hf.block b hlt (fun e => by injection e with e; omega)).trans h2, World.ownsRowF.kept (row := some blk) h3 hf ?_, h4⟩
    rcases h3.2 with ⟨rfl, _⟩ | ⟨g, cap, cur, fz, rfl, hg, _⟩
    · exact .inl rfl
    · exact .inr (fun e => by simp [Value.ownBlock] at e; omega)
  rcases h with h | h
  · exact .inl (key _ h)
  · exact .inr (key _ h)
theorem Bld.keep {w w' : World} {b : Nat} {out : List UInt8} (h : Bld w b out) (hb : Below w.heap.size w w') (hb0 : 0 < b) : Bld w' b out :=
  h.fr (blk := 0) ⟨hb.os, hb.tape, hb.output, hb.size, fun k hk _ => hb.block k hk⟩ hb0
theorem Bld.heap {w : World} {b : Nat} {out : List UInt8} (h : Bld w b out) : ∃ p v, w.heap[b]? = some (.cells #[p, v] 37 (0, 0)) := by
  rcases h with h | h
  · obtain ⟨_, v, h2, _⟩ := h; exact ⟨_, v, h2⟩
  · obtain ⟨_, v, h2, _⟩ := h; exact ⟨_, v, h2⟩
/-- The people stand while the output is written. -/
theorem Sc.others {w w' : World} {blk b : Nat} {L : List Per} (h : Sc w blk L) (ho : Lib.OthersKept 5 (some b) w w') (hne : blk ≠ b) (hb : ∃ p v, w.heap[b]? = some (.cells #[p, v] 37 (0, 0))) : Sc w' blk L := by
  obtain ⟨v, h1, h2⟩ := h
  refine ⟨v, ho blk _ h1 (fun e => hne (by injection e)) (fun c fz e => by injection e with _ e _; exact absurd e (by decide)), h2.1, ?_⟩
  rcases h2.2 with h0 | ⟨g, cap, cur, hv, hg, hh, hr⟩
  · exact .inl h0
  · refine .inr ⟨g, cap, cur, hv, hg, ho g _ hh (fun e => ?_) (fun c fz e => by injection e with _ e _; exact absurd e (by decide)), hr⟩
    injection e with e
    subst e
    obtain ⟨p, u, hb⟩ := hb
    rw [hb] at hh
    injection hh with hh
    injection hh with _ e _
    exact absurd e (by decide)
/-- The lines. -/
def LinesAt (w : World) (tb : Nat) (s : ByteArray) : Prop := w.heap[tb]? = some (.cells ((cutB 10 s).map Value.string).toArray 9 (0, 0))
theorem LinesAt.others {w w' : World} {tb b : Nat} {s : ByteArray} (h : LinesAt w tb s) (ho : Lib.OthersKept 5 (some b) w w') (hne : tb ≠ b) : LinesAt w' tb s :=
  ho tb _ h (fun e => hne (by injection e)) (fun c fz e => by injection e with _ e _; exact absurd e (by decide))
theorem LinesAt.cell {w : World} {tb : Nat} {s : ByteArray} (h : LinesAt w tb s) {k : Nat} (hk : k < (cutB 10 s).length) : w.cell? ⟨tb, k, none⟩ = some (.string ((cutB 10 s).getD k ⟨#[]⟩)) := by
  simp [World.cell?, show w.heap[tb]? = _ from h, List.getD_eq_getElem?_getD, List.getElem?_eq_getElem hk]
theorem cutB_at (s : ByteArray) {k : Nat} (hk : k < (cutB 10 s).length) : ((cutB 10 s).getD k ⟨#[]⟩).data.toList = (cutL 10 s.data.toList).getD k [] := by
  unfold cutB at hk ⊢
  rw [List.length_map] at hk
  simp [List.getD_eq_getElem?_getD, List.getElem?_map, List.getElem?_eq_getElem hk]
theorem wsL_cut (s : ByteArray) : wsL (cutB 32 s) = cutL 32 s.data.toList := by
  unfold wsL cutB
  rw [List.map_map]
  simp [Function.comp_def]
theorem cutL_sizes {c : UInt8} {l x : List UInt8} (h : x ∈ cutL c l) : x.length ≤ l.length := (cutL_mem h).2
theorem cutB_sizes {c : UInt8} {s x : ByteArray} (h : x ∈ cutB c s) : x.size ≤ s.size := by
  unfold cutB at h
  obtain ⟨l, hl, rfl⟩ := List.mem_map.1 h
  exact cutL_sizes hl
theorem splitI (s : ByteArray) (c : UInt8) (w : World) (hs : s.size ≤ 1000000) (hl : LibM w) :
    Calls Tryz.prog 18 #[.string s, .string ⟨#[c]⟩] w fun e w' => e = .returned (.slice (some ⟨w.heap.size, 0, none⟩) (cutB c s).length (cutB c s).length) ∧ w' = w.alloc (.cells ((cutB c s).map Value.string).toArray 9) := by
  obtain ⟨m, hm⟩ := hl.2
  have := Tryz.strings_Split s ⟨#[c]⟩ m w (by omega) hm (Nat.le_refl _)
  rw [split_cut c _ s rfl, ← cutB_len] at this
  exact this
theorem rowS_new (w : World) (xs : List ByteArray) : RowS (w.alloc (.cells (xs.map Value.string).toArray 9)) (some ⟨w.heap.size, 0, none⟩) w.heap.size 0 xs := by
  refine ⟨fun _ => rfl, fun i hi => ?_⟩
  rw [World.cell?_alloc_new, Nat.zero_add, List.getElem?_toArray, List.getElem?_map, get_of (d := ⟨#[]⟩) hi]
  rfl

/-- Behind the first k lines. -/
def ExS (w : World) (s : ByteArray) (k : Nat) (wr : World) : Prop :=
  Sc wr w.heap.size (runM [] ((linesM s.data.toList).take k)).1 ∧ Bld wr (w.heap.size + 1) (runM [] ((linesM s.data.toList).take k)).2 ∧ LinesAt wr (w.heap.size + 1 + 1) s ∧ Below w.heap.size w wr

set_option maxRecDepth 100000 in
set_option maxHeartbeats 4000000 in
theorem executeI (s : ByteArray) (w : World) (hs : s.size ≤ 100000000) (hl : LibM w) (hC : ∀ l ∈ (cutL 10 s.data.toList).dropLast, LineC (kindM (cutL 32 l))) :
    Calls Tryz.prog 11 #[.string s] w fun e w' => e = .returned (.string ⟨(execM s.data.toList).toArray⟩) ∧ Below w.heap.size w w' := by
  have HL := Lib.hid hl
  have HC := Lib.hid hC
  clear hl hC
  by_cases h5 : s.size ≤ 500
  · have HE := Lib.hid (show execM s.data.toList = (runM [] (linesM s.data.toList)).2 ++ sPeople ++ word ((runM [] (linesM s.data.toList)).1.length : Int) ++ [10] by unfold execM linesM; exact if_pos h5)
    have hlen : (cutB 10 s).length = (linesM s.data.toList).length + 1 := by rw [linesM_len]; unfold cutB; rw [List.length_map]
    have hcnt : (cutB 10 s).length ≤ 501 := by
      rw [cutB_len]
      have := Lib.countB_le (⟨#[10]⟩ : ByteArray) (Nat.le_refl _) s.size s (Nat.le_refl _)
      omega
    obtain ⟨n, hn⟩ : ∃ n, (linesM s.data.toList).length = n := ⟨_, rfl⟩
    rw [hn] at hlen
    have HN := Lib.hid hn
    have HLEN := Lib.hid hlen
    have hn5 : n ≤ 500 := by omega
    clear hn hcnt
    go_enter Tryz.func11, Tryz.ntmps11
    go_wp2_with fail
    have hb0 := Boxed.new w 34 (.slice none 0 0)
    have HSP := fun (W : World) (hW : Below w.heap.size w W) => splitI s 10 W (by omega) (HL.out.keep hW (Nat.le_refl _))
    have hbW : Below w.heap.size w ((w.alloc (.cells #[.slice none 0 0] 34)).alloc (.cells #[.pointer none, .slice none 0 0] 37)) := ((Below.refl _ _).alloc (Nat.le_refl _) _).alloc (by simp) _
    rw [hlen] at HSP
    refine (HSP _ hbW).mono ?_
    rintro e w3 ⟨rfl, rfl⟩
    have hst : ExS w s 0 (((w.alloc (.cells #[.slice none 0 0] 34)).alloc (.cells #[.pointer none, .slice none 0 0] 37)).alloc (.cells ((cutB 10 s).map Value.string).toArray 9)) := by
      refine ⟨⟨_, (hb0.alloc _).alloc _, World.ownsRow_nil _ _ _ _⟩, ?_, ?_, hbW.alloc (by simp; omega) _⟩
      · have h1 := Lib.IsBuilderF.of (Lib.fresh_isBuilder 37 5 (w.alloc (.cells #[.slice none 0 0] 34)))
        rw [World.size_alloc] at h1
        exact Bld.keep (out := []) h1 ((Below.refl _ _).alloc (Nat.le_refl _) _) (by omega)
      · show (World.alloc _ _).heap[_]? = _
        have := heap_alloc_new ((w.alloc (.cells #[.slice none 0 0] 34)).alloc (.cells #[.pointer none, .slice none 0 0] 37)) (.cells ((cutB 10 s).map Value.string).toArray 9)
        simpa using this
    have HST := Lib.hid hst
    clear hst hb0 HSP hbW
    go_wp2_with fail
    go_loopw [21] (fun i wr => ∃ k : Nat, k ≤ n ∧ i = .int .i64 k ∧ ExS w s k wr) (fun i _ => n - (intOf i).toNat)
    case atStart => exact ⟨0, Nat.zero_le _, rfl, by simpa using HST.out⟩
    case round =>
      obtain ⟨k, hk, rfl, hsc, hbd, hln, hb⟩ := hrel
      clear HST
      have hsw := hb.size
      have HB := Lib.hid hb
      have HBD := Lib.hid hbd
      have HLN := Lib.hid hln
      have HSC := Lib.hid hsc
      by_cases hlt : k < n
      · have hcell := hln.cell (k := k) (by rw [HLEN.out]; omega)
        have HAT := Lib.hid (cutB_at s (k := k) (by rw [HLEN.out]; omega))
        have HTK := Lib.hid (linesM_take (s := s.data.toList) (k := k) (by rw [HN.out]; exact hlt))
        have HMEM := Lib.hid (HC.out _ (linesM_mem (s := s.data.toList) (k := k) (by rw [HN.out]; exact hlt)))
        have HLS := Lib.hid (show ((cutB 10 s).getD k ⟨#[]⟩).size ≤ 500 from Nat.le_trans (cutB_sizes (c := 10) (s := s) (by rw [List.getD_eq_getElem?_getD, List.getElem?_eq_getElem (by rw [HLEN.out]; omega), Option.getD_some]; exact List.getElem_mem _)) h5)
        obtain ⟨x, hx⟩ : ∃ x, (cutB 10 s).getD k ⟨#[]⟩ = x := ⟨_, rfl⟩
        rw [hx] at hcell HAT HLS
        rw [← HAT.out] at HTK HMEM
        obtain ⟨R, hR⟩ : ∃ R, runM [] ((linesM s.data.toList).take k) = R := ⟨_, rfl⟩
        have HRN := Lib.hid (show runM [] ((linesM s.data.toList).take (k + 1)) = ((stepM R.1 (cutL 32 x.data.toList)).1, R.2 ++ (stepM R.1 (cutL 32 x.data.toList)).2) by rw [HTK.out, runM_snoc, hR])
        have HRO := Lib.hid (show pplB R.1 = true by rw [← hR]; exact runM_ok pplB_nil _)
        have HRS := Lib.hid (show R.2.length ≤ 100000 by
          rw [← hR]
          have := run_short pplB_nil ((linesM s.data.toList).take k)
          rw [List.length_take] at this
          omega)
        rw [hR] at HSC HBD
        have HSS := Lib.hid (step_short HRO.out (cutL 32 x.data.toList))
        have hwl : 1 ≤ (cutB 32 x).length ∧ (cutB 32 x).length ≤ 501 := by
          rw [cutB_len]
          have := Lib.countB_le (⟨#[32]⟩ : ByteArray) (Nat.le_refl _) x.size x (Nat.le_refl _)
          have := HLS.out
          omega
        clear hx hR hsc hbd hln hb
        go_wp2_with fail
        refine (splitI x 32 wr (by have := HLS.out; omega) (HL.out.keep HB.out (Nat.le_refl _))).mono ?_
        rintro e w4 ⟨rfl, rfl⟩
        have hal := (Below.refl wr.heap.size wr).alloc (Nat.le_refl _) (.cells ((cutB 32 x).map Value.string).toArray 9)
        have hrs := rowS_new wr (cutB 32 x)
        obtain ⟨w4, hw4⟩ : ∃ w4, wr.alloc (.cells ((cutB 32 x).map Value.string).toArray 9) = w4 := ⟨_, rfl⟩
        rw [hw4] at hal hrs ⊢
        have HB4 := Lib.hid (HB.out.trans (hal.mono hsw))
        have HBD4 := Lib.hid (HBD.out.keep hal (Nat.succ_pos _))
        have HLN4 := Lib.hid (show LinesAt w4 (w.heap.size + 1 + 1) s from (hal.block _ (Array.getElem?_eq_some_iff.1 HLN.out).1).trans HLN.out)
        have HSC4 := Lib.hid (HSC.out.keep hal)
        have HRS4 := Lib.hid hrs
        have hs4 := HB4.out.size
        clear hal hrs hw4
        go_wp2_with fail
        refine (HMEM.out w.heap.size R.1 wr.heap.size (cutB 32 x).length (cutB 32 x) w4 HSC4.out HRO.out HRS4.out (Nat.le_refl _) (by omega) (fun y hy => Nat.le_trans (cutB_sizes hy) HLS.out) hwl.1 hwl.2 (HL.out.keep HB4.out (Nat.le_refl _)) (by rw [wsL_cut])).mono ?_
        rintro e w5 ⟨out, ok, rfl, ho, hsc5, hf5⟩
        rw [wsL_cut] at ho hsc5
        have HO := Lib.hid ho
        have HSC5 := Lib.hid hsc5
        have HBD5 := Lib.hid (HBD4.out.fr hf5 (Nat.lt_succ_self _))
        have HLN5 := Lib.hid (show LinesAt w5 (w.heap.size + 1 + 1) s from (hf5.block _ (Array.getElem?_eq_some_iff.1 HLN4.out).1 (fun e => by injection e with e; omega)).trans HLN4.out)
        have HB5 := Lib.hid (HB4.out.trans (below_grown hf5 (Nat.le_refl _) hs4))
        have hs5 := hf5.size
        have hs45 := HSC4.out.lt
        clear ho hsc5 hf5
        have fin : ∀ (S : ByteArray) (w6 : World), S.data.toList = (stepM R.1 (cutL 32 x.data.toList)).2 → Lib.BuilderAtF 37 5 (w.heap.size + 1) (w.heap.size + 1) (.pointer (some ⟨w.heap.size + 1, 0, none⟩)) (Lib.byteCells R.2 ++ Lib.strCells S) w6 → Below (w.heap.size + 1) w5 w6 → Lib.OthersKept 5 (some (w.heap.size + 1)) w5 w6 → ExS w s (k + 1) w6 := fun S w6 hS hib hb6 hok => by
          refine ⟨?_, ?_, HLN5.out.others hok (by omega), HB5.out.trans (hb6.mono (Nat.le_succ _))⟩
          · rw [HRN.out]
            exact HSC5.out.others hok (by omega) HBD5.out.heap
          · rw [HRN.out]
            show Lib.IsBuilderF _ _ _ _ _ _
            rw [Lib.byteCells_append, ← hS, ← Lib.strCells_eq]
            exact .inr hib
        have FIN := Lib.hid fin
        clear fin
        cases ok with
        | true =>
          have HO2 := Lib.hid (show (stepM R.1 (cutL 32 x.data.toList)).2 = out.data.toList from HO.out)
          have HW := Lib.hid (Tryz.Builder_WriteString_k (w.heap.size + 1) (w.heap.size + 1) (Lib.byteCells R.2) out w5 HBD5.out (by
            have h1 := HRS.out
            have h2 := HSS.out
            rw [HO2.out, Array.length_toList] at h2
            rw [Lib.byteCells_length]
            show _ + out.data.size ≤ _
            omega) (by omega))
          go_wp2_with fail
          refine (HW.out).mono ?_
          rintro e w6 ⟨rfl, hib, hb6, hok6⟩
          have HF := Lib.hid (FIN.out out w6 HO2.out.symm hib hb6 hok6)
          clear hib hb6 hok6
          go_wp2_with fail
          go_roundw
          case rel => exact ⟨k + 1, by omega, by go_num, HF.out⟩
          case measure => simp [intOf]; omega
        | false =>
          have HO2 := Lib.hid (show (stepM R.1 (cutL 32 x.data.toList)).2 = sNo from HO.out)
          have HW := Lib.hid (Tryz.Builder_WriteString_k (w.heap.size + 1) (w.heap.size + 1) (Lib.byteCells R.2) ⟨#[110, 111, 10]⟩ w5 HBD5.out (by
            have h1 := HRS.out
            rw [Lib.byteCells_length]
            show _ + 3 ≤ _
            omega) (by omega))
          go_wp2_with fail
          refine (HW.out).mono ?_
          rintro e w6 ⟨rfl, hib, hb6, hok6⟩
          have HF := Lib.hid (FIN.out ⟨#[110, 111, 10]⟩ w6 HO2.out.symm hib hb6 hok6)
          clear hib hb6 hok6
          go_wp2_with fail
          go_roundw
          case rel => exact ⟨k + 1, by omega, by go_num, HF.out⟩
          case measure => simp [intOf]; omega
      · obtain rfl : k = n := by omega
        have hall : (linesM s.data.toList).take k = linesM s.data.toList := List.take_of_length_le (by rw [HN.out]; exact Nat.le_refl _)
        rw [hall] at HSC HBD
        obtain ⟨R, hR⟩ : ∃ R, runM [] (linesM s.data.toList) = R := ⟨_, rfl⟩
        have hok : pplB R.1 = true := by rw [← hR]; exact runM_ok pplB_nil _
        have h40 := (ppl_t.1 hok).1
        have HRS := Lib.hid (show R.2.length ≤ 100000 by
          rw [← hR]
          have := run_short pplB_nil (linesM s.data.toList)
          rw [HN.out] at this
          omega)
        rw [hR] at HSC HBD HE
        obtain ⟨ao, b, cap, hbox, -, -, -, -, -⟩ := HSC.out.ppl
        have hbc := hbox.cell
        clear hbox hR hall hsc hbd hln hb hok
        go_wp2_with fail
        refine (itoaI (R.1.length : Int) wr (by omega) (by omega) (HL.out.keep HB.out (Nat.le_refl _)).1.1).mono ?_
        rintro e w4 ⟨rfl, hb4⟩
        have HB4 := Lib.hid (HB.out.trans (hb4.mono hsw))
        have HBD4 := Lib.hid (HBD.out.keep hb4 (Nat.succ_pos _))
        have hs4 := hb4.size
        have hbl := HSC.out.lt
        clear hb4
        have hwd : (wd (R.1.length : Int)).size ≤ 7 := by
          have := Go.TextMath.word_short (n := (R.1.length : Int)) (by omega) (by omega)
          simpa [wd, ByteArray.size] using this
        have HW := Lib.hid (Tryz.Builder_WriteString_k (w.heap.size + 1) (w.heap.size + 1) (Lib.byteCells R.2) ((⟨#[112, 101, 111, 112, 108, 101, 32]⟩ : ByteArray) ++ wd (R.1.length : Int) ++ ⟨#[10]⟩) w4 HBD4.out (by
          have h1 := HRS.out
          rw [Lib.byteCells_length, ByteArray.size_append, ByteArray.size_append]
          show _ + (7 + _ + 1) ≤ _
          omega) (by omega))
        go_wp2_with fail
        refine (HW.out).mono ?_
        rintro e w5 ⟨rfl, hib, hb5, -⟩
        have HIB := Lib.hid (show Lib.IsBuilderF 37 5 (w.heap.size + 1) (w.heap.size + 1) (Lib.byteCells (execM s.data.toList)) w5 from by
          have e : Lib.byteCells (execM s.data.toList) = Lib.byteCells R.2 ++ Lib.strCells ((⟨#[112, 101, 111, 112, 108, 101, 32]⟩ : ByteArray) ++ wd (R.1.length : Int) ++ ⟨#[10]⟩) := by
            rw [HE.out, Lib.strCells_eq, ← Lib.byteCells_append]
            congr 1
            simp [wd, sPeople]
          rw [e]
          exact .inr hib)
        have HB5 := Lib.hid (HB4.out.trans (hb5.mono (Nat.le_succ _)))
        have hs5 := hb5.size
        clear hib hb5
        go_wp2_with fail
        refine (Tryz.Builder_String_any_f (w.heap.size + 1) (w.heap.size + 1) _ w5 HIB.out (by omega)).mono ?_
        rintro e w6 ⟨rfl, -, hb6⟩
        have HB6 := Lib.hid (HB5.out.trans (hb6.mono (Nat.le_succ _)))
        clear hb6
        go_wp2_with fail
        go_ret
        exact ⟨rfl, HB6.out⟩
  · have HE := Lib.hid (show execM s.data.toList = sLong by unfold execM; exact if_neg h5)
    have h6 : 500 < s.size := by omega
    go_enter Tryz.func11, Tryz.ntmps11
    go_wp2_with fail
    go_ret
    exact ⟨by rw [HE.out]; rfl, Below.refl _ _⟩
end Go.Proofs.YtlmlchkolcmhpaaGreatDoor
end

section
/-
  Contract: impl.emptyTable.
-/
namespace Go.Proofs.YtlmlchkolcmhpaaGreatDoor
open Go.RowKit

/-- Rows of rows out of their blocks, one by one. -/
theorem mt_of_rows {α : Type} {enc : α → Value} {RT ET : TypeId} {w : World} {base b : Nat} {T : List (List α)} {g : Nat → Nat} {c : Nat → Nat} (hb : base ≤ b) (hl : T.length ≤ 9223372036854775807)
    (h1 : w.rowIs b RT T.length (fun i => .slice (some ⟨g i, 0, none⟩) (T.getD i []).length (c i))) (hlow : ∀ i, i < T.length → base ≤ g i) (hinj : ∀ i j, i < T.length → j < T.length → g i = g j → i = j)
    (hrow : ∀ i, i < T.length → (T.getD i []).length ≤ c i ∧ c i ≤ 9223372036854775807 ∧ ∃ f, w.rowIs (g i) ET (c i) f ∧ ∀ j x, (T.getD i [])[j]? = some x → f j = enc x) :
    MtG enc RT ET w base (.slice (some ⟨b, 0, none⟩) T.length T.length) T g := by
  obtain ⟨cur, hh, hs, hcur⟩ := h1
  refine ⟨⟨(List.range T.length).map fun i => .slice (some ⟨g i, 0, none⟩) (T.getD i []).length (c i), ⟨by simp, .inr ⟨b, T.length, cur, rfl, hb, hh, Nat.le_refl _, by unfold maxLen; omega, by rw [hs, Nat.mul_one], ?_⟩⟩, fun i hi => ?_⟩, hlow, hinj⟩
  · apply List.ext_getElem?
    intro j
    by_cases hj : j < T.length
    · rw [Nat.mul_one, List.getElem?_take_of_lt hj, Array.getElem?_toList, hcur j hj, List.getElem?_map, List.getElem?_range hj]
      rfl
    · rw [List.getElem?_eq_none (by rw [List.length_take]; omega), List.getElem?_eq_none (by simp; omega)]
  · obtain ⟨h2, h3, f, h4, h5⟩ := hrow i hi
    exact ⟨c i, f, by rw [List.getElem?_map, List.getElem?_range hi]; rfl, h2, h3, h4, h5⟩

theorem blank_at {h n i : Nat} (hi : i < h) : (blank h n).getD i [] = List.replicate n 0 := by
  simp [blank, List.getD_eq_getElem?_getD, List.getElem?_replicate, hi]

set_option maxHeartbeats 1000000 in
theorem emptyI (h n : Nat) (w : World) (hh : h ≤ 100) (hn : n ≤ 100) :
    Calls Tryz.prog 71 #[.int .i64 h, .int .i64 n] w fun e w' => ∃ g, e = .returned (.slice (some ⟨w.heap.size, 0, none⟩) h h) ∧ MtI w' w.heap.size (.slice (some ⟨w.heap.size, 0, none⟩) h h) (blank h n) g ∧ Below w.heap.size w w' := by
  have hmk : ∀ W : World, (Instr.makeSlice 53 (.int .i64 (n : Int)) (.int .i64 (n : Int))).run Tryz.prog W = .ok (.slice (some ⟨W.heap.size, 0, none⟩) n n) (W.alloc (.cells (madeCells #[.int .i64 0] n) 3)) :=
    fun W => run_make_row' 53 3 _ 8 Tryz.underlying53 eltI.info rfl .i64 .i64 n (by omega) (by omega) W
  have hmt : ∀ W : World, (Instr.makeSlice 64 (.int .i64 (h : Int)) (.int .i64 (h : Int))).run Tryz.prog W = .ok (.slice (some ⟨W.heap.size, 0, none⟩) h h) (W.alloc (.cells (madeCells #[.slice none 0 0] h) 53)) :=
    fun W => run_make_row' 64 53 _ 24 Tryz.underlying64 eltR.info rfl .i64 .i64 h (by omega) (by omega) W
  go_enter Tryz.func71, Tryz.ntmps71
  go_wp2_with fail
  go_loopw [11] (fun i wr => ∃ k : Nat, k ≤ h ∧ i = .int .i64 k ∧ wr.heap.size = w.heap.size + 1 + k ∧ Below w.heap.size w wr ∧
      wr.rowIs w.heap.size 53 h (fun i => if i < k then .slice (some ⟨w.heap.size + 1 + i, 0, none⟩) n n else .slice none 0 0) ∧ ∀ i, i < k → wr.rowIs (w.heap.size + 1 + i) 3 n (fun _ => .int .i64 0)) (fun i _ => h - (intOf i).toNat)
  case atStart =>
    refine ⟨0, Nat.zero_le _, rfl, by simp, (Below.refl _ _).alloc (Nat.le_refl _) _, (World.rowIs_made w _ _ _).congr fun i _ => by rw [if_neg (by omega)], fun i hi => absurd hi (by omega)⟩
  case round =>
    obtain ⟨k, hk, rfl, hsz, hb, ht, hr⟩ := hrel
    have HSZ := Lib.hid hsz
    have HB := Lib.hid hb
    have HT := Lib.hid ht
    have HR := Lib.hid hr
    clear hsz hb ht hr
    by_cases hlt : k < h
    · have hcell := HT.out.cell hlt
      have hfr := HT.out.frozen k
      have hbl := HT.out.lt
      have hli : (k : Int) < (h : Int) := by omega
      rw [if_neg (Nat.lt_irrefl _)] at hcell
      go_wp2_with fail
      go_roundw
      case rel =>
        have hsz := HSZ.out
        refine ⟨k + 1, by omega, by go_num, by simp; omega, ((HB.out.setCell (p := ⟨w.heap.size, k, none⟩) (Nat.le_refl _) _).alloc (by simp; omega) _), ?_, fun i hi => ?_⟩
        · refine ((HT.out.set k _).alloc _).congr fun i hi => ?_
          by_cases e : i = k
          · subst e
            rw [if_pos rfl, if_pos (by omega), hsz]
          · rw [if_neg e]
            by_cases e2 : i < k
            · rw [if_pos e2, if_pos (by omega)]
            · rw [if_neg e2, if_neg (by omega)]
        · by_cases e : i = k
          · subst e
            rw [← hsz]
            have := World.rowIs_made (wr.setCell ⟨w.heap.size, i, none⟩ (.slice (some ⟨wr.heap.size, 0, none⟩) n n)) (.int .i64 0) n 3
            rw [World.size_setCell] at this
            exact this
          · exact ((HR.out i (by omega)).setOther (by simp; omega) _).alloc _
      case measure => simp [intOf]; omega
    · obtain rfl : k = h := by omega
      go_wp2_with fail
      go_ret
      refine ⟨fun i => w.heap.size + 1 + i, rfl, ?_, HB.out⟩
      have := mt_of_rows (enc := Value.int .i64) (RT := 53) (ET := 3) (w := wr) (base := w.heap.size) (b := w.heap.size) (T := blank k n) (g := fun i => w.heap.size + 1 + i) (c := fun _ => n) (Nat.le_refl _) (by rw [blank_len]; omega)
        (by rw [blank_len]; exact HT.out.congr fun i hi => by rw [if_pos hi, blank_row hi]) (fun i _ => by omega) (fun i j _ _ e => by omega)
        (fun i hi => by
          rw [blank_len] at hi
          rw [blank_row hi]
          refine ⟨Nat.le_refl _, by omega, _, HR.out i hi, fun j x hx => ?_⟩
          rw [blank_at hi] at hx
          have := List.getElem?_eq_some_iff.1 hx
          obtain ⟨h1, h2⟩ := this
          simp at h2
          rw [← h2])
      rw [blank_len] at this
      exact this
end Go.Proofs.YtlmlchkolcmhpaaGreatDoor
end

section
/-
  Rows of rows under a range over a function: they are kept where only what is no cells has turned.
-/
namespace Go.Proofs.YtlmlchkolcmhpaaGreatDoor
open Go.RowKit
variable {α : Type} {enc : α → Value} {RT ET : TypeId} {w w' : World} {base : Nat} {v : Value} {T : List (List α)} {g : Nat → Nat}
theorem orow_keptO {row : Option Nat} {e : TypeId} {size n : Nat} {cs : List Value} (h : w.ownsRow base e size v n cs) (hg : w.grownBy w' row) (hr : ∀ r, row = some r → ∃ o : Obj, w.heap[r]? = some o ∧ o.isCells = false) : w'.ownsRow base e size v n cs := by
  refine h.kept hg ?_
  rcases h.2 with ⟨rfl, _⟩ | ⟨k, cap, cur, rfl, _, hgb, _⟩
  · exact .inl rfl
  · refine .inr fun e' => ?_
    obtain ⟨o, ho, hc⟩ := hr k (by simpa [Value.ownBlock] using e'.symm)
    rw [hgb] at ho; cases ho; cases hc
theorem rowIs_keptO {row : Option Nat} {b n : Nat} {e : TypeId} {f : Nat → Value} (h : w.rowIs b e n f) (hg : w.grownBy w' row) (hr : ∀ r, row = some r → ∃ o : Obj, w.heap[r]? = some o ∧ o.isCells = false) : w'.rowIs b e n f := by
  refine h.of_block (hg.block _ h.lt fun e' => ?_)
  obtain ⟨cur, hh, _⟩ := h
  obtain ⟨o, ho, hc⟩ := hr b e'.symm
  rw [hh] at ho; cases ho; cases hc
theorem MtG.keptO {row : Option Nat} (h : MtG enc RT ET w base v T g) (hg : w.grownBy w' row) (hr : ∀ r, row = some r → ∃ o : Obj, w.heap[r]? = some o ∧ o.isCells = false) : MtG enc RT ET w' base v T g := by
  obtain ⟨cs, hc, hcs⟩ := h.top
  refine ⟨⟨cs, orow_keptO hc hg hr, fun i hi => ?_⟩, h.low, h.inj⟩
  obtain ⟨c, f, h1, h2, h3, hf, h4⟩ := hcs i hi
  exact ⟨c, f, h1, h2, h3, rowIs_keptO hf hg hr, h4⟩
theorem orow_mono {base' : Nat} {e : TypeId} {size n : Nat} {cs : List Value} (h : w.ownsRow base e size v n cs) (hb : base' ≤ base) : w.ownsRow base' e size v n cs := by
  refine ⟨h.1, ?_⟩
  rcases h.2 with h2 | ⟨g, cap, cur, hv, hg, r⟩
  · exact .inl h2
  · exact .inr ⟨g, cap, cur, hv, Nat.le_trans hb hg, r⟩
theorem MtG.mono {base' : Nat} (h : MtG enc RT ET w base v T g) (hb : base' ≤ base) : MtG enc RT ET w base' v T g := by
  obtain ⟨cs, hc, hcs⟩ := h.top
  exact ⟨⟨cs, orow_mono hc hb, hcs⟩, fun i hi => Nat.le_trans hb (h.low i hi), h.inj⟩
theorem MtG.alloc (h : MtG enc RT ET w base v T g) (o : Obj) : MtG enc RT ET (w.alloc o) base v T g := h.keptO (World.grownBy_alloc w o none) (fun r e => by cases e)
theorem MtG.box {bo : Nat} {u : Value} (h : MtG enc RT ET w base v T g) (hbo : ∀ k, v.ownBlock = some k → k ≠ bo) (hg : ∀ i, i < T.length → g i ≠ bo) : MtG enc RT ET (w.setCell ⟨bo, 0, none⟩ u) base v T g := by
  obtain ⟨cs, hc, hcs⟩ := h.top
  have hgr : w.grownBy (w.setCell ⟨bo, 0, none⟩ u) (some bo) := grownBy_setCell' w bo u
  refine ⟨⟨cs, World.ownsRow.kept hc hgr ?_, fun i hi => ?_⟩, h.low, h.inj⟩
  · cases hv : v.ownBlock with
    | none => exact .inl rfl
    | some k => exact .inr (fun e => by injection e with e; exact hbo k hv e)
  · obtain ⟨c, f, h1, h2, h3, hf, h4⟩ := hcs i hi
    exact ⟨c, f, h1, h2, h3, hf.of_block (hgr.block _ hf.lt (fun e => by injection e with e; exact hg i hi e)), h4⟩
end Go.Proofs.YtlmlchkolcmhpaaGreatDoor
end

section
/-
  Contracts: impl.TableOf, spec.TableOf.
-/
namespace Go.Proofs.YtlmlchkolcmhpaaGreatDoor
open Go.RowKit
open Go.TextMath (tvB mvB text word)

theorem tabO_take {L : List Per} {k : Nat} (hk : k < L.length) : tabO (L.take (k + 1)) = incC (tabO (L.take k)) (L.getD k per0).area.toNat (L.getD k per0).job.toNat := by
  rw [← tabO_snoc]
  congr 1
  rw [List.take_add_one, List.getD_eq_getElem?_getD, List.getElem?_eq_getElem hk]
  rfl
theorem per_take {L : List Per} (h : pplB L = true) (k : Nat) : ∀ p ∈ L.take k, PerOk p := fun p hp => ppl_all h p (List.mem_of_mem_take hp)

/-- What the loop over the people keeps. -/
def TabOR (w : World) (L : List Per) (k tb : Nat) (wr : World) : Prop := ∃ g, MtI wr w.heap.size (.slice (some ⟨tb, 0, none⟩) 4 4) (tabO (L.take k)) g ∧ Below w.heap.size w wr

set_option maxRecDepth 100000 in
set_option maxHeartbeats 2000000 in
theorem tableOfI (ao : Option Addr) (b off cap : Nat) (L : List Per) (w : World) (hr : Ppl w ao b off L) (hv : pplB L = true) :
    Calls Tryz.prog 35 #[.slice ao L.length cap] w fun e w' => ∃ v g, e = .returned (.tuple #[v, .bool true]) ∧ MtI w' w.heap.size v (tabO L) g ∧ Below w.heap.size w w' := by
  have h40 := (ppl_t.1 hv).1
  have HV := Lib.hid hv
  have HR := Lib.hid hr
  have HC := Lib.hid (peopleI ao b off cap L w hr (by omega))
  clear hr hv
  go_enter Tryz.func35, Tryz.ntmps35
  go_wp2_with fail
  refine (HC.out).mono ?_
  rintro e w1 ⟨rfl, hb1⟩
  rw [HV.out]
  have HB1 := Lib.hid hb1
  clear hb1 HC
  go_wp2_with fail
  refine (emptyI 4 4 w1 (by omega) (by omega)).mono ?_
  rintro e w2 ⟨g2, rfl, hm2, hb2⟩
  have HS2 := Lib.hid (show TabOR w L 0 w1.heap.size w2 from ⟨g2, by rw [List.take_zero]; exact hm2.mono HB1.out.size, HB1.out.trans (hb2.mono HB1.out.size)⟩)
  clear hm2 hb2
  obtain ⟨tb, htb⟩ : ∃ tb, w1.heap.size = tb := ⟨_, rfl⟩
  rw [htb] at HS2 ⊢
  clear htb
  go_wp2_with fail
  go_loopw [13] (fun t wr => ∃ k : Nat, k ≤ L.length ∧ t = .int .i64 k ∧ TabOR w L k tb wr) (fun t _ => L.length - (intOf t).toNat)
  case atStart => exact ⟨0, Nat.zero_le _, rfl, HS2.out⟩
  case round =>
    obtain ⟨k, hk, rfl, g, hm, hb⟩ := hrel
    have HB := Lib.hid hb
    have HM := Lib.hid hm
    have hsz := hb.size
    by_cases hlt : k < L.length
    · have h2 := (HR.out.keep HB.out (Nat.le_refl _)).2 k hlt
      obtain rfl := HR.out.1 (by omega)
      have hpok := (ppl_t.1 HV.out).2 k hlt
      have HT := Lib.hid (tabO_take hlt)
      obtain ⟨p, hp⟩ : ∃ p, L.getD k per0 = p := ⟨_, rfl⟩
      rw [hp] at h2 hpok HT
      clear hp
      obtain ⟨a, j, s, y⟩ := p
      unfold PerOk at hpok
      obtain ⟨c0, c1, c2, c3⟩ := h2
      simp only at c0 c1 c2 c3 hpok HT
      obtain ⟨a, rfl⟩ : ∃ n : Nat, a = n := ⟨a.toNat, by omega⟩
      obtain ⟨j, rfl⟩ : ∃ n : Nat, j = n := ⟨j.toNat, by omega⟩
      rw [Int.toNat_natCast, Int.toNat_natCast] at HT
      have hlen := tabO_len (L.take k)
      have hrow := tabO_row (L.take k) (per_take HV.out k) a (by omega)
      obtain ⟨cr, hth, -, hqc, -, -, -, -⟩ := hm.at_ (i := a) (by rw [hlen]; omega)
      rw [hrow] at hth hqc
      obtain ⟨old, hold⟩ : ∃ old, ((tabO (L.take k)).getD a [])[j]? = some old := ⟨_, get_of (d := 0) (by rw [hrow]; omega)⟩
      obtain ⟨hst, hsf⟩ := hm.elt (by rw [hlen]; omega) hold
      have hold2 : cellT (tabO (L.take k)) a j = old := by unfold cellT; rw [List.getD_eq_getElem?_getD, hold]; rfl
      have hcl := tabO_cell (L.take k) (per_take HV.out k) a j (by omega) (by omega)
      rw [hold2, List.length_take] at hcl
      have HOLD := Lib.hid hold2
      have hlow := hm.low a (by rw [hlen]; omega)
      have HLR := Lib.hid (show a < (tabO (L.take k)).length ∧ j < ((tabO (L.take k)).getD a []).length from ⟨by rw [hlen]; omega, by rw [hrow]; omega⟩)
      obtain ⟨gj, hgj⟩ : ∃ gj, g a = gj := ⟨_, rfl⟩
      rw [hgj] at hth hst hsf hlow
      have HGJ := Lib.hid hgj
      have HLOW := Lib.hid hlow
      have ha4 : (a : Int) < 4 := by omega
      have hj4 : (j : Int) < 4 := by omega
      have hwr : IntKind.i64.wrap (old + 1) = old + 1 := IntWalk.i64_in _ ⟨by omega, by omega⟩
      clear hm hb hlen hrow hold hgj hold2 hlow
      go_wp2_with fail
      obtain ⟨V, hV⟩ : ∃ V, wr.alloc (.cells #[.int .i64 (a : Int), .int .i64 (j : Int), .int .i64 s, .int .i64 y] 69) = V := ⟨_, rfl⟩
      have v0 : V.cell? ⟨wr.heap.size, 0, none⟩ = some (.int .i64 (a : Int)) := by rw [← hV, World.cell?_alloc_new]; rfl
      have v1 : V.cell? ⟨wr.heap.size, 1, none⟩ = some (.int .i64 (j : Int)) := by rw [← hV, World.cell?_alloc_new]; rfl
      have bV : Below wr.heap.size wr V := by rw [← hV]; exact (Below.refl _ _).alloc (Nat.le_refl _) _
      have v2 := (bV.cell (p := ⟨tb, a, none⟩) (World.block_lt_of_cell? _ _ hth)).trans hth
      have v3 := (bV.cell (p := ⟨gj, j, none⟩) (World.block_lt_of_cell? _ _ hst)).trans hst
      have v4 := (bV.frozen (p := ⟨gj, j, none⟩) (World.block_lt_of_cell? _ _ hst)).trans hsf
      have HMV := Lib.hid (show MtI V w.heap.size (.slice (some ⟨tb, 0, none⟩) 4 4) (tabO (L.take k)) g from HM.out.below bV)
      have HBV := Lib.hid (HB.out.trans (bV.mono hsz))
      rw [hV]
      clear hV bV hth hst hsf
      go_still_tail 11, (by kernel_rfl)
      change wpList _ _ _ _ _ V.drew
      go_wp2_with fail
      go_roundw
      case rel =>
        refine ⟨k + 1, by omega, by go_num, g, ?_, ?_⟩
        · have hput := HMV.out.put (by decide) (i := a) (j := j) HLR.out.1 HLR.out.2 (old + 1)
          rw [HT.out]
          unfold incC putC
          rw [HOLD.out]
          rw [HGJ.out] at hput
          exact hput.below (Below.refl _ _).drew
        · exact (((HBV.out).setCell (p := ⟨gj, j, none⟩) HLOW.out _)).drew
      case measure => simp [intOf]; omega
    · obtain rfl : k = L.length := by omega
      rw [List.take_length] at hm
      have HM' := Lib.hid hm
      clear hm hb
      go_wp2_with fail
      go_ret2
      exact ⟨_, g, rfl, HM'.out, HB.out⟩
/-- .. with the capacity that the run-time gave. -/
def TabOT (w : World) (L : List Per) (k tb cap : Nat) (wr : World) : Prop := ∃ g, MtI wr w.heap.size (.slice (some ⟨tb, 0, none⟩) 4 cap) (tabO (L.take k)) g ∧ Below w.heap.size w wr

set_option maxRecDepth 100000 in
set_option maxHeartbeats 2000000 in
theorem tableOfS (ao : Option Addr) (b off cap : Nat) (L : List Per) (w : World) (hr : Ppl w ao b off L) (hv : pplB L = true) :
    Calls Tryz.prog 60 #[.slice ao L.length cap] w fun e w' => ∃ v g, e = .returned (.tuple #[v, .bool true]) ∧ MtI w' w.heap.size v (tabO L) g ∧ Below w.heap.size w w' := by
  have h40 := (ppl_t.1 hv).1
  have HV := Lib.hid hv
  have HR := Lib.hid hr
  have HC := Lib.hid (peopleS ao b off cap L w hr (by omega))
  clear hr hv
  go_enter Tryz.func60, Tryz.ntmps60
  go_wp2_with fail
  refine (HC.out).mono ?_
  rintro e w1 ⟨rfl, hb1⟩
  rw [HV.out]
  have HB1 := Lib.hid hb1
  clear hb1 HC
  go_wp2_with fail
  refine (blankS 4 4 w1 (by omega) (by omega)).mono ?_
  rintro e w2 ⟨v2, g2, rfl, hm2, hb2⟩
  obtain ⟨ao2, tb, cap2, rfl, k1, k2, k3, -⟩ := hm2.cells
  rw [blank_len] at k1 k3 hm2
  obtain ⟨rfl, -, -⟩ := k3 (by omega)
  have HS2 := Lib.hid (show TabOT w L 0 tb cap2 w2 from ⟨g2, by rw [List.take_zero]; exact hm2.mono HB1.out.size, HB1.out.trans (hb2.mono HB1.out.size)⟩)
  clear hm2 hb2
  rw [blank_len]
  go_wp2_with fail
  go_loopw [5] (fun t wr => ∃ k : Nat, k ≤ L.length ∧ t = .int .i64 k ∧ TabOT w L k tb cap2 wr) (fun t _ => L.length - (intOf t).toNat)
  case atStart => exact ⟨0, Nat.zero_le _, rfl, HS2.out⟩
  case round =>
    obtain ⟨k, hk, rfl, g, hm, hb⟩ := hrel
    have HB := Lib.hid hb
    have HM := Lib.hid hm
    have hsz := hb.size
    by_cases hlt : k < L.length
    · have h2 := (HR.out.keep HB.out (Nat.le_refl _)).2 k hlt
      obtain rfl := HR.out.1 (by omega)
      have hpok := (ppl_t.1 HV.out).2 k hlt
      have HT := Lib.hid (tabO_take hlt)
      obtain ⟨p, hp⟩ : ∃ p, L.getD k per0 = p := ⟨_, rfl⟩
      rw [hp] at h2 hpok HT
      clear hp
      obtain ⟨a, j, s, y⟩ := p
      unfold PerOk at hpok
      obtain ⟨c0, c1, c2, c3⟩ := h2
      simp only at c0 c1 c2 c3 hpok HT
      obtain ⟨a, rfl⟩ : ∃ n : Nat, a = n := ⟨a.toNat, by omega⟩
      obtain ⟨j, rfl⟩ : ∃ n : Nat, j = n := ⟨j.toNat, by omega⟩
      rw [Int.toNat_natCast, Int.toNat_natCast] at HT
      have hlen := tabO_len (L.take k)
      have hrow := tabO_row (L.take k) (per_take HV.out k) a (by omega)
      obtain ⟨cr, hth, -, hqc, -, -, -, -⟩ := hm.at_ (i := a) (by rw [hlen]; omega)
      rw [hrow] at hth hqc
      obtain ⟨old, hold⟩ : ∃ old, ((tabO (L.take k)).getD a [])[j]? = some old := ⟨_, get_of (d := 0) (by rw [hrow]; omega)⟩
      obtain ⟨hst, hsf⟩ := hm.elt (by rw [hlen]; omega) hold
      have hold2 : cellT (tabO (L.take k)) a j = old := by unfold cellT; rw [List.getD_eq_getElem?_getD, hold]; rfl
      have hcl := tabO_cell (L.take k) (per_take HV.out k) a j (by omega) (by omega)
      rw [hold2, List.length_take] at hcl
      have HOLD := Lib.hid hold2
      have hlow := hm.low a (by rw [hlen]; omega)
      have HLR := Lib.hid (show a < (tabO (L.take k)).length ∧ j < ((tabO (L.take k)).getD a []).length from ⟨by rw [hlen]; omega, by rw [hrow]; omega⟩)
      obtain ⟨gj, hgj⟩ : ∃ gj, g a = gj := ⟨_, rfl⟩
      rw [hgj] at hth hst hsf hlow
      have HGJ := Lib.hid hgj
      have HLOW := Lib.hid hlow
      have ha4 : (a : Int) < 4 := by omega
      have hj4 : (j : Int) < 4 := by omega
      have hwr : IntKind.i64.wrap (old + 1) = old + 1 := IntWalk.i64_in _ ⟨by omega, by omega⟩
      clear hm hb hlen hrow hold hgj hold2 hlow
      go_wp2_with fail
      go_still_tail 30, (by kernel_rfl)
      go_wp2_with fail
      go_roundw
      case rel =>
        refine ⟨k + 1, by omega, by go_num, g, ?_, ?_⟩
        · have hput := HM.out.put (by decide) (i := a) (j := j) HLR.out.1 HLR.out.2 (old + 1)
          rw [HT.out]
          unfold incC putC
          rw [HOLD.out]
          rw [HGJ.out] at hput
          exact hput.below (Below.refl _ _).drew
        · exact ((HB.out.setCell (p := ⟨gj, j, none⟩) HLOW.out _)).drew
      case measure => simp [intOf]; omega
    · obtain rfl : k = L.length := by omega
      rw [List.take_length] at hm
      have HM' := Lib.hid hm
      clear hm hb
      go_wp2_with fail
      go_ret2
      exact ⟨_, g, rfl, HM'.out, HB.out⟩
end Go.Proofs.YtlmlchkolcmhpaaGreatDoor
end

section
/-
  Contract: impl.scriptNumber.
-/
namespace Go.Proofs.YtlmlchkolcmhpaaGreatDoor
open Go.RowKit
open Go.ParseMath

theorem digS_low {l : List UInt8} {k : Nat} {x : UInt8} (hk : l[k]? = some x) (hx : x.toNat < 48 ∨ 57 < x.toNat) : ∀ n : Int, digS n l = -1 := by
  induction l generalizing k with
  | nil => simp at hk
  | cons b r ih =>
    intro n
    rw [digS_cons]
    split
    · rfl
    · rename_i hb
      cases k with
      | zero =>
        rw [List.getElem?_cons_zero] at hk
        cases hk
        exact absurd hx hb
      | succ k =>
        rw [List.getElem?_cons_succ] at hk
        exact ih hk _
theorem scr_digits {l : List UInt8} (h1 : 1 ≤ l.length) (h4 : l.length ≤ 4) (hd : ∀ k, k < l.length → 48 ≤ (l.getD k 0).toNat ∧ (l.getD k 0).toNat ≤ 57) : okI l = true ∧ valI l = numS l ∧ 0 ≤ numS l := by
  have hd' : ∀ x ∈ l, 48 ≤ x.toNat ∧ x.toNat ≤ 57 := fun x hx => by
    obtain ⟨k, hk, rfl⟩ := List.mem_iff_getElem.1 hx
    have := hd k hk
    rwa [List.getD_eq_getElem?_getD, List.getElem?_eq_getElem hk, Option.getD_some] at this
  obtain ⟨m, m1, m2⟩ := decFrom_digS l hd' 0
  have hn : numS l = m := by unfold numS; rw [if_pos ⟨h1, h4⟩]; exact m2
  have ha : Lib.atoiAll l = .ok (m : Int) := by
    cases l with
    | nil => simp at h1
    | cons b r =>
      have hb := hd' b (by simp)
      rw [Lib.atoiAll_plain b r (by omega) (by omega), Lib.signless_short (by omega)]
      have e : Lib.decNat (b :: r) = Lib.decFrom 0 (b :: r) := rfl
      rw [e, m1]
      rfl
  refine ⟨by unfold okI; rw [ha], ?_, by omega⟩
  rw [hn]
  unfold valI
  rw [ha]

set_option maxHeartbeats 2000000 in
theorem scrI (s : ByteArray) (hs : s.size ≤ 100000000) (w : World) :
    Calls Tryz.prog 34 #[.string s] w fun e w' => e = .returned (.int .i64 (scrN s.data.toList)) ∧ Below w.heap.size w w' := by
  by_cases h45 : s.data.toList = [45]
  · obtain rfl : s = ⟨#[45]⟩ := by
      apply ByteArray.ext
      apply Array.toList_inj.1
      rw [h45]
    go_enter Tryz.func34, Tryz.ntmps34
    go_wp2_with fail
    go_ret
    exact ⟨rfl, Below.refl _ _⟩
  · have he45 : (s.toList == [45]) = false := by rw [Lib.toList_data]; exact beq_eq_false_iff_ne.2 h45
    by_cases h4 : 1 ≤ s.size ∧ s.size ≤ 4
    · obtain ⟨h1, h2⟩ := h4
      have HLEN := Lib.hid (show s.data.toList.length = s.size from Array.length_toList)
      have HNE := Lib.hid h45
      clear h45
      go_enter Tryz.func34, Tryz.ntmps34
      go_wp2_with fail
      go_loop [18] (fun i => ∃ k : Nat, i = .int .i64 k ∧ k ≤ s.size ∧ Hid (∀ j, j < k → 48 ≤ (s.data.toList.getD j 0).toNat ∧ (s.data.toList.getD j 0).toNat ≤ 57)) (fun i => s.size - (intOf i).toNat)
      case atStart => exact ⟨0, rfl, Nat.zero_le _, Lib.hid fun j hj => absurd hj (by omega)⟩
      case round =>
        obtain ⟨k, rfl, hk, HD⟩ := hrel
        by_cases hlt : k < s.size
        · have hat : s.data.toList[k]? = some (s[k]'hlt) := by
            rw [List.getElem?_eq_getElem (by rw [HLEN.out]; exact hlt)]
            rfl
          have hxb : (s[k]'hlt).toNat < 256 := (s[k]'hlt).toNat_lt
          obtain ⟨x, hx⟩ : ∃ x, (s[k]'hlt).toNat = x := ⟨_, rfl⟩
          have HAT := Lib.hid hat
          rw [hx] at hxb
          have HX := Lib.hid hx
          have HLOW := Lib.hid (show x < 48 ∨ 57 < x → scrN s.data.toList = 10000 from fun hb => by
            unfold scrN
            rw [if_neg HNE.out, if_pos]
            unfold numS
            split
            · rw [digS_low HAT.out (by rw [HX.out]; exact hb)]; decide
            · decide)
          clear hat
          by_cases hlo : x < 48
          · have hloi : (x : Int) < 48 := by omega
            go_wp2_with fail
            go_ret
            exact ⟨by rw [HLOW.out (.inl hlo)]; rfl, Below.refl _ _⟩
          · by_cases hhi : 57 < x
            · go_wp2_with fail
              go_ret
              exact ⟨by rw [HLOW.out (.inr hhi)]; rfl, Below.refl _ _⟩
            · go_wp2_with fail
              go_round
              case rel =>
                refine ⟨k + 1, by go_num, by omega, Lib.hid fun j hj => ?_⟩
                by_cases e : j < k
                · exact HD.out j e
                · obtain rfl : j = k := by omega
                  rw [List.getD_eq_getElem?_getD, HAT.out, Option.getD_some, HX.out]
                  omega
              case measure => simp [intOf]; omega
        · obtain rfl : k = s.size := by omega
          obtain ⟨d1, d2, d3⟩ := scr_digits (l := s.data.toList) (by rw [HLEN.out]; exact h1) (by rw [HLEN.out]; exact h2) (by rw [HLEN.out]; exact HD.out)
          have HV := Lib.hid (show scrN s.data.toList = valI s.data.toList by unfold scrN; rw [if_neg HNE.out, if_neg (by omega), d2])
          have HA := Lib.hid (atoi_yes s w (by omega) d1)
          clear d1 d2 d3
          go_wp2_with fail
          refine (HA.out).mono ?_
          rintro e w' ⟨rfl, hb⟩
          have HB := Lib.hid hb
          clear hb
          go_wp2_with fail
          go_ret
          exact ⟨by rw [HV.out]; rfl, HB.out⟩
    · have HV := Lib.hid (show scrN s.data.toList = 10000 by
        unfold scrN numS
        rw [if_neg h45, Array.length_toList]
        rw [if_neg (show ¬ (1 ≤ s.data.size ∧ s.data.size ≤ 4) from h4), if_pos (by decide)])
      clear h45
      by_cases h0 : s.size < 1
      · go_enter Tryz.func34, Tryz.ntmps34
        go_wp2_with fail
        go_ret
        exact ⟨by rw [HV.out]; rfl, Below.refl _ _⟩
      · have h5 : 4 < s.size := by omega
        go_enter Tryz.func34, Tryz.ntmps34
        go_wp2_with fail
        go_ret
        exact ⟨by rw [HV.out]; rfl, Below.refl _ _⟩
end Go.Proofs.YtlmlchkolcmhpaaGreatDoor
end

section
/-
  Contract: a line of a script of kind 1.
-/
namespace Go.Proofs.YtlmlchkolcmhpaaGreatDoor
open Go.RowKit Go.Maps Go.WideShapes
open Go.TextMath (tvB mvB text word)
attribute [local go_sem] run_makeMap

set_option maxRecDepth 100000 in
set_option maxHeartbeats 4000000 in
theorem line1 : LineC 1 := by
  intro blk L sb scap ss w hsc hv hrow hl1 hl2 hsz _ _ hlib hkind
  obtain ⟨hk0, hkn⟩ := kind_1 hkind
  rw [wsL_len] at hkn
  rw [wsL_at ss (by omega)] at hk0
  have HX0 := Lib.hid (word_is hk0)
  have HK := Lib.hid hkind
  have HV := Lib.hid hv
  have HSC := Lib.hid hsc
  have HROW := Lib.hid hrow
  have HLIB := Lib.hid hlib
  have HSZ := Lib.hid hsz
  have HSN := Lib.hid hkn
  have h0 := hrow.2 0 (by omega)
  rw [HX0.out] at h0
  rw [Nat.zero_add] at h0
  have h40 := (ppl_t.1 hv).1
  obtain ⟨ao, b, cap, hbox, hppl, hc1, hc2, hne, hnn⟩ := hsc.ppl
  have HBOX := Lib.hid hbox
  have HPPL := Lib.hid hppl
  have HNE := Lib.hid hne
  have hblk := hbox.lt
  have hsb : sb < w.heap.size := World.block_lt_of_cell? _ _ h0
  rw [hkn] at hl1 ⊢
  have h0' : w.cell? ⟨sb, 0, none⟩ = some (.string ⟨#[112, 101, 114, 115, 111, 110]⟩) := h0
  clear hk0 hkind hv hbox hppl hne hrow hlib hsz hkn h0
  go_enter Tryz.func19, Tryz.ntmps19
  have HM0 := Lib.hid (MapS.start w)
  go_wp2_with (refine ins_step w _ _ _ HM0.out rfl _ _ _ rfl rfl ⟨#[112, 101, 114, 115, 111, 110]⟩ rfl (by decide) 4 rfl (by decide) (by decide) ?_)
  intro W1 hm1
  have HM1 := Lib.hid hm1
  clear hm1 HM0
  go_wp2_with (refine ins_step w _ _ _ HM1.out rfl _ _ _ rfl rfl ⟨#[100, 114, 111, 112]⟩ rfl (by decide) 1 rfl (by decide) (by decide) ?_)
  intro W2 hm2
  have HM2 := Lib.hid hm2
  clear hm2 HM1
  go_wp2_with (refine ins_step w _ _ _ HM2.out rfl _ _ _ rfl rfl ⟨#[99, 111, 117, 110, 116]⟩ rfl (by decide) 3 rfl (by decide) (by decide) ?_)
  intro W3 hm3
  have HM3 := Lib.hid hm3
  clear hm3 HM2
  go_wp2_with (refine ins_step w _ _ _ HM3.out rfl _ _ _ rfl rfl ⟨#[116, 97, 98, 108, 101]⟩ rfl (by decide) 0 rfl (by decide) (by decide) ?_)
  intro W4 hm4
  have HM4 := Lib.hid hm4
  clear hm4 HM3
  go_wp2_with (refine ins_step w _ _ _ HM4.out rfl _ _ _ rfl rfl ⟨#[115, 109, 97, 108, 108]⟩ rfl (by decide) 1 rfl (by decide) (by decide) ?_)
  intro W5 hm5
  have HM5 := Lib.hid hm5
  clear hm5 HM4
  go_wp2_with (refine ins_step w _ _ _ HM5.out rfl _ _ _ rfl rfl ⟨#[103, 114, 111, 119]⟩ rfl (by decide) 2 rfl (by decide) (by decide) ?_)
  intro W6 hm6
  have HM6 := Lib.hid hm6
  clear hm6 HM5
  go_wp2_with (refine ins_step w _ _ _ HM6.out rfl _ _ _ rfl rfl ⟨#[114, 111, 117, 110, 100]⟩ rfl (by decide) 1 rfl (by decide) (by decide) ?_)
  intro W7 hm7
  have HM7 := Lib.hid hm7
  clear hm7 HM6
  go_wp2_with (refine ins_step w _ _ _ HM7.out rfl _ _ _ rfl rfl ⟨#[103, 114, 111, 117, 112, 115]⟩ rfl (by decide) 0 rfl (by decide) (by decide) ?_)
  intro W8 hm8
  have HM8 := Lib.hid hm8
  clear hm8 HM7
  have h08 := (HM8.out.2.cell (p := ⟨sb, 0, none⟩) hsb).trans h0'
  have HB8 := Lib.hid HM8.out.2
  go_wp2_with (at_lookup; refine look_step w _ HM8.out rfl _ _ rfl rfl ⟨#[112, 101, 114, 115, 111, 110]⟩ rfl (by decide) 4 true (by decide) (by decide) ?_)
  all_goals try go_wp2_with fail
  go_loopw [9, 45] (fun v i wr => ∃ j : Nat, j ≤ 4 ∧ i = .int .i64 j ∧ Own wr w.heap.size v ((numsB ss).take j) ∧ Below w.heap.size w wr) (fun _ i _ => 4 - (intOf i).toNat)
  case atStart => exact ⟨0, Nat.zero_le _, rfl, by rw [List.take_zero]; exact Own.nil _ _, HB8.out⟩
  case round =>
    obtain ⟨j, hj, rfl, ho, hb⟩ := hrel
    have HO := Lib.hid ho
    have HB := Lib.hid hb
    have hsw := hb.size
    by_cases hjm : j < 4
    · have hcj : wr.cell? ⟨sb, 1 + j, none⟩ = some (.string (ss.getD (1 + j) ⟨#[]⟩)) := (hb.cell (p := ⟨sb, 1 + j, none⟩) hsb).trans (by have := HROW.out.2 (1 + j) (by rw [HSN.out]; omega); rwa [Nat.zero_add] at this)
      obtain ⟨x, hx⟩ : ∃ x, ss.getD (1 + j) ⟨#[]⟩ = x := ⟨_, rfl⟩
      rw [hx] at hcj
      have hxs : x.size ≤ 500 := by rw [← hx, List.getD_eq_getElem?_getD, List.getElem?_eq_getElem (by rw [HSN.out]; omega), Option.getD_some]; exact HSZ.out _ (List.getElem_mem _)
      have HTK := Lib.hid (nums_take (xs := numsB ss) (k := j) (by rw [numsB_len, HSN.out]; omega))
      rw [numsB_at ss (by rw [HSN.out]; omega), Nat.add_comm j 1, hx, Nat.add_comm 1 j] at HTK
      have HTL := Lib.hid (show ((numsB ss).take j).length = j by rw [List.length_take, numsB_len, HSN.out]; omega)
      have hji : (j : Int) < 4 := by omega
      obtain ⟨zs, hzs⟩ : ∃ zs, (numsB ss).take j = zs := ⟨_, rfl⟩
      rw [hzs] at HO HTK HTL
      clear ho hb hx hzs
      go_wp2_with fail
      refine (scrI x (by omega) wr).mono ?_
      rintro e w1 ⟨rfl, hb1⟩
      have HB1 := Lib.hid hb1
      have HO1 := Lib.hid (HO.out.below hb1)
      have hs1 := hb1.size
      have hj9 : Hid (zs.length ≤ 1000000000) := Lib.hid (by rw [HTL.out]; omega)
      clear hb1
      go_wp2_with (at_builtin; refine wpList_app eltI rfl (.tmp 49) (.tmp 52) rfl w.heap.size _ _ _ rfl HO1.out [.int .i64 (scrN x.data.toList)] rfl (by intro u hu; simp at hu; subst hu; rfl) rfl rfl hj9.out (by omega) ?_)
      intro v' w2 ho2 hb2 _
      have HO2 := Lib.hid (show Own w2 w.heap.size v' ((numsB ss).take (j + 1)) by
        rw [HTK.out]
        unfold Own
        rw [List.length_append, List.length_singleton, List.map_append, List.map_singleton]
        exact ho2)
      have HB2 := Lib.hid ((HB.out.trans (HB1.out.mono hsw)).trans hb2)
      clear ho2 hb2
      go_wp2_with fail
      go_roundw
      case rel => exact ⟨j + 1, by omega, by go_num, HO2.out, HB2.out⟩
      case measure => simp [intOf]; omega
    · obtain rfl : j = 4 := by omega
      rw [List.take_of_length_le (by have h := numsB_len ss; rw [HSN.out] at h; omega)] at ho
      obtain ⟨an, bn, cn, hvn, hn1, hn2, hnr, -⟩ := ho.row
      have hnl : (numsB ss).length = 4 := by rw [numsB_len, HSN.out]
      rw [hnl] at hvn hn1
      subst hvn
      have HNR := Lib.hid hnr
      have HNL := Lib.hid hnl
      have hbc := (boxed_bel HBOX.out hb hblk).cell
      have hp1 := HPPL.out.keep hb (Nat.le_refl _)
      clear ho hnr hnl HO
      go_wp2_with fail
      refine (tableOfI ao b 0 cap L wr hp1 HV.out).mono ?_
      rintro e w3 ⟨vt, gt, rfl, hmt, hb3⟩
      have HB3 := Lib.hid (HB.out.trans (hb3.mono hsw))
      have HNR3 := Lib.hid (HNR.out.keep hb3 (Nat.le_refl _))
      have HMT := Lib.hid (hmt.mono hsw)
      obtain ⟨at3, bt3, ct3, rfl, ht1, ht2, htab⟩ := hmt.tab
      have HTAB := Lib.hid htab
      have HTT := Lib.hid (tabO_tv HV.out)
      have hn40 : (numsB ss).length ≤ 4 := by rw [HNL.out]; decide
      have h03 := (HB3.out.cell (p := ⟨sb, 0, none⟩) hsb).trans h0'
      have hbc3 := (boxed_bel HBOX.out HB3.out hblk).cell
      have HSC3 := Lib.hid (HSC.out.keep HB3.out)
      have HLIB3 := Lib.hid (HLIB.out.keep HB3.out (Nat.le_refl _))
      have HPPL3 := Lib.hid (HPPL.out.keep HB3.out (Nat.le_refl _))
      have hs3 := HB3.out.size
      clear hb hb3 hmt htab hp1 hbc
      obtain ⟨y0, y1, y2, y3, hy⟩ : ∃ y0 y1 y2 y3, numsB ss = [y0, y1, y2, y3] := four HNL.out
      have HL0 := Lib.hid (show L ++ [perR (numsM (wsL ss))] = L ++ [⟨y0, y1, y2, y3⟩] by rw [numsB_eq, hy]; rfl)
      have n0 := HNR3.out.2 0 (by rw [HNL.out]; decide)
      have n1 := HNR3.out.2 1 (by rw [HNL.out]; decide)
      have n2 := HNR3.out.2 2 (by rw [HNL.out]; decide)
      have n3 := HNR3.out.2 3 (by rw [HNL.out]; decide)
      obtain rfl := HNR3.out.1 (by rw [HNL.out]; decide)
      rw [hy] at n0 n1 n2 n3
      simp only [List.getD_cons_zero, List.getD_cons_succ, Nat.zero_add] at n0 n1 n2 n3
      clear hy
      have htl := tabO_len L
      rw [htl] at ht1 ⊢
      clear htl
      have hbn := World.block_lt_of_cell? _ _ n0
      simp only at hbn
      have KS := Lib.hid (fun (W' : World) (hW : Below w3.heap.size w3 W') => (show W'.cell? ⟨blk, 0, none⟩ = some (.slice ao L.length cap) ∧ W'.cell? ⟨bn, 0, none⟩ = some (.int .i64 y0) ∧ W'.cell? ⟨bn, 1, none⟩ = some (.int .i64 y1) ∧ W'.cell? ⟨bn, 2, none⟩ = some (.int .i64 y2) ∧ W'.cell? ⟨bn, 3, none⟩ = some (.int .i64 y3) from ⟨(hW.cell (p := ⟨blk, 0, none⟩) (Nat.lt_of_lt_of_le hblk hs3)).trans hbc3, (hW.cell (p := ⟨bn, 0, none⟩) hbn).trans n0, (hW.cell (p := ⟨bn, 1, none⟩) hbn).trans n1, (hW.cell (p := ⟨bn, 2, none⟩) hbn).trans n2, (hW.cell (p := ⟨bn, 3, none⟩) hbn).trans n3⟩))
      go_wp2_with fail
      refine wp_region_held (S := (fun V => V.cell? ⟨blk, 0, none⟩ = some (.slice ao L.length cap) ∧ V.cell? ⟨bn, 0, none⟩ = some (.int .i64 y0) ∧ V.cell? ⟨bn, 1, none⟩ = some (.int .i64 y1) ∧ V.cell? ⟨bn, 2, none⟩ = some (.int .i64 y2) ∧ V.cell? ⟨bn, 3, none⟩ = some (.int .i64 y3))) (by kernel_rfl) ?_
      change wpAnyH _ _ _ _ _ _ _ _ w3.drew
      have hS0 : w3.drew.cell? ⟨blk, 0, none⟩ = some (.slice ao L.length cap) ∧ w3.drew.cell? ⟨bn, 0, none⟩ = some (.int .i64 y0) ∧ w3.drew.cell? ⟨bn, 1, none⟩ = some (.int .i64 y1) ∧ w3.drew.cell? ⟨bn, 2, none⟩ = some (.int .i64 y2) ∧ w3.drew.cell? ⟨bn, 3, none⟩ = some (.int .i64 y3) := ⟨hbc3, n0, n1, n2, n3⟩
      have hd := (Below.refl w3.heap.size w3).drew
      obtain ⟨Wd, hWd⟩ : ∃ Wd, w3.drew = Wd := ⟨_, rfl⟩
      rw [hWd] at hS0 hd ⊢
      have HD := Lib.hid hd
      clear hWd hd
      refine wpAnyH_take (i := 0) (v := .pointer (some ⟨blk, 0, none⟩)) rfl (by kernel_rfl) (by kernel_rfl) (by kernel_rfl) (fun _ _ _ h => h) (Or.inl ⟨by kernel_rfl, fun V hV => ?_⟩) hS0 ?_
      · obtain ⟨q0, q1, q2, q3, q4⟩ := hV
        go_simp
      simp only [Act.put, List.setIfInBounds_toArray, List.set_cons_zero, List.set_cons_succ]
      refine wpAnyH_take (i := 1) (v := .pointer (some ⟨blk, 0, none⟩)) rfl (by kernel_rfl) (by kernel_rfl) (by kernel_rfl) (fun _ _ _ h => h) (Or.inl ⟨by kernel_rfl, fun V hV => ?_⟩) hS0 ?_
      · obtain ⟨q0, q1, q2, q3, q4⟩ := hV
        go_simp
      simp only [Act.put, List.setIfInBounds_toArray, List.set_cons_zero, List.set_cons_succ]
      refine wpAnyH_take (i := 2) (v := .pointer (some ⟨blk, 0, none⟩)) rfl (by kernel_rfl) (by kernel_rfl) (by kernel_rfl) (fun _ _ _ h => h) (Or.inl ⟨by kernel_rfl, fun V hV => ?_⟩) hS0 ?_
      · obtain ⟨q0, q1, q2, q3, q4⟩ := hV
        go_simp
      simp only [Act.put, List.setIfInBounds_toArray, List.set_cons_zero, List.set_cons_succ]
      refine wpAnyH_take (i := 3) (v := .slice ao L.length cap) rfl (by kernel_rfl) (by kernel_rfl) (by kernel_rfl) (fun _ _ _ h => h) (Or.inl ⟨by kernel_rfl, fun V hV => ?_⟩) hS0 ?_
      · obtain ⟨q0, q1, q2, q3, q4⟩ := hV
        go_simp
      simp only [Act.put, List.setIfInBounds_toArray, List.set_cons_zero, List.set_cons_succ]
      refine wpAnyH_take (i := 5) (v := .slice (some ⟨bn, 0, none⟩) 4 cn) rfl (by kernel_rfl) (by kernel_rfl) (by kernel_rfl) (fun _ _ _ h => h) (Or.inl ⟨by kernel_rfl, fun V hV => ?_⟩) hS0 ?_
      · obtain ⟨q0, q1, q2, q3, q4⟩ := hV
        go_simp
      simp only [Act.put, List.setIfInBounds_toArray, List.set_cons_zero, List.set_cons_succ]
      refine wpAnyH_take (i := 6) (v := .pointer (some ⟨bn, 0, none⟩)) rfl (by kernel_rfl) (by kernel_rfl) (by kernel_rfl) (fun _ _ _ h => h) (Or.inl ⟨by kernel_rfl, fun V hV => ?_⟩) hS0 ?_
      · obtain ⟨q0, q1, q2, q3, q4⟩ := hV
        go_simp
      simp only [Act.put, List.setIfInBounds_toArray, List.set_cons_zero, List.set_cons_succ]
      refine wpAnyH_take (i := 7) (v := .int .i64 y0) rfl (by kernel_rfl) (by kernel_rfl) (by kernel_rfl) (fun _ _ _ h => h) (Or.inl ⟨by kernel_rfl, fun V hV => ?_⟩) hS0 ?_
      · obtain ⟨q0, q1, q2, q3, q4⟩ := hV
        go_simp
      simp only [Act.put, List.setIfInBounds_toArray, List.set_cons_zero, List.set_cons_succ]
      refine wpAnyH_take (i := 8) (v := .slice (some ⟨bn, 0, none⟩) 4 cn) rfl (by kernel_rfl) (by kernel_rfl) (by kernel_rfl) (fun _ _ _ h => h) (Or.inl ⟨by kernel_rfl, fun V hV => ?_⟩) hS0 ?_
      · obtain ⟨q0, q1, q2, q3, q4⟩ := hV
        go_simp
      simp only [Act.put, List.setIfInBounds_toArray, List.set_cons_zero, List.set_cons_succ]
      refine wpAnyH_take (i := 9) (v := .pointer (some ⟨bn, 1, none⟩)) rfl (by kernel_rfl) (by kernel_rfl) (by kernel_rfl) (fun _ _ _ h => h) (Or.inl ⟨by kernel_rfl, fun V hV => ?_⟩) hS0 ?_
      · obtain ⟨q0, q1, q2, q3, q4⟩ := hV
        go_simp
      simp only [Act.put, List.setIfInBounds_toArray, List.set_cons_zero, List.set_cons_succ]
      refine wpAnyH_take (i := 10) (v := .int .i64 y1) rfl (by kernel_rfl) (by kernel_rfl) (by kernel_rfl) (fun _ _ _ h => h) (Or.inl ⟨by kernel_rfl, fun V hV => ?_⟩) hS0 ?_
      · obtain ⟨q0, q1, q2, q3, q4⟩ := hV
        go_simp
      simp only [Act.put, List.setIfInBounds_toArray, List.set_cons_zero, List.set_cons_succ]
      refine wpAnyH_take (i := 11) (v := .slice (some ⟨bn, 0, none⟩) 4 cn) rfl (by kernel_rfl) (by kernel_rfl) (by kernel_rfl) (fun _ _ _ h => h) (Or.inl ⟨by kernel_rfl, fun V hV => ?_⟩) hS0 ?_
      · obtain ⟨q0, q1, q2, q3, q4⟩ := hV
        go_simp
      simp only [Act.put, List.setIfInBounds_toArray, List.set_cons_zero, List.set_cons_succ]
      refine wpAnyH_take (i := 12) (v := .pointer (some ⟨bn, 2, none⟩)) rfl (by kernel_rfl) (by kernel_rfl) (by kernel_rfl) (fun _ _ _ h => h) (Or.inl ⟨by kernel_rfl, fun V hV => ?_⟩) hS0 ?_
      · obtain ⟨q0, q1, q2, q3, q4⟩ := hV
        go_simp
      simp only [Act.put, List.setIfInBounds_toArray, List.set_cons_zero, List.set_cons_succ]
      refine wpAnyH_take (i := 13) (v := .int .i64 y2) rfl (by kernel_rfl) (by kernel_rfl) (by kernel_rfl) (fun _ _ _ h => h) (Or.inl ⟨by kernel_rfl, fun V hV => ?_⟩) hS0 ?_
      · obtain ⟨q0, q1, q2, q3, q4⟩ := hV
        go_simp
      simp only [Act.put, List.setIfInBounds_toArray, List.set_cons_zero, List.set_cons_succ]
      refine wpAnyH_take (i := 14) (v := .slice (some ⟨bn, 0, none⟩) 4 cn) rfl (by kernel_rfl) (by kernel_rfl) (by kernel_rfl) (fun _ _ _ h => h) (Or.inl ⟨by kernel_rfl, fun V hV => ?_⟩) hS0 ?_
      · obtain ⟨q0, q1, q2, q3, q4⟩ := hV
        go_simp
      simp only [Act.put, List.setIfInBounds_toArray, List.set_cons_zero, List.set_cons_succ]
      refine wpAnyH_take (i := 15) (v := .pointer (some ⟨bn, 3, none⟩)) rfl (by kernel_rfl) (by kernel_rfl) (by kernel_rfl) (fun _ _ _ h => h) (Or.inl ⟨by kernel_rfl, fun V hV => ?_⟩) hS0 ?_
      · obtain ⟨q0, q1, q2, q3, q4⟩ := hV
        go_simp
      simp only [Act.put, List.setIfInBounds_toArray, List.set_cons_zero, List.set_cons_succ]
      refine wpAnyH_take (i := 16) (v := .int .i64 y3) rfl (by kernel_rfl) (by kernel_rfl) (by kernel_rfl) (fun _ _ _ h => h) (Or.inl ⟨by kernel_rfl, fun V hV => ?_⟩) hS0 ?_
      · obtain ⟨q0, q1, q2, q3, q4⟩ := hV
        go_simp
      simp only [Act.put, List.setIfInBounds_toArray, List.set_cons_zero, List.set_cons_succ]
      refine wpAnyH_take (i := 17) (v := .agg #[.int .i64 y0, .int .i64 y1, .int .i64 y2, .int .i64 y3]) rfl (by kernel_rfl) (by kernel_rfl) (by kernel_rfl) (fun _ _ _ h => h) (Or.inl ⟨by kernel_rfl, fun V hV => ?_⟩) hS0 ?_
      · obtain ⟨q0, q1, q2, q3, q4⟩ := hV
        go_simp
      simp only [Act.put, List.setIfInBounds_toArray, List.set_cons_zero, List.set_cons_succ]
      refine wpAnyH_ready (rs := [4, 18]) (by kernel_rfl) (by simp) ?_
      refine AllReadyH.cons rfl (fun K hK => ?_) (AllReadyH.cons rfl (fun K hK => ?_) AllReadyH.nil)
      · rw [if_pos (by kernel_rfl)]
        go_simp
        refine (cloneP ao b cap L Wd (HPPL3.out.keep HD.out (Nat.le_refl _)) (by omega) hc1 hnn).mono ?_
        rintro e w4 ⟨vc, rfl, hoc, hb4⟩
        have hok4 := HD.out.trans (hb4.mono HD.out.size)
        refine hK.out _ _ (KS.out _ hok4) (fun _ => ?_)
        try simp only [Act.put, List.setIfInBounds_toArray, List.set_cons_zero, List.set_cons_succ]
        clear hK K
        refine wpAnyH_ready (rs := [18]) (by kernel_rfl) (by simp) ?_
        refine AllReadyH.cons rfl (fun K hK => ?_) AllReadyH.nil
        go_simp
        refine hK.out _ _ (KS.out _ (hok4.alloc (by have := hok4.size; omega) _)) (fun _ => ?_)
        try simp only [Act.put, List.setIfInBounds_toArray, List.set_cons_zero, List.set_cons_succ]
        clear hK K
        refine wpAnyH_ready (rs := [19]) (by kernel_rfl) (by simp) ?_
        refine AllReadyH.cons rfl (fun K hK => ?_) AllReadyH.nil
        rw [if_pos (by rfl)]
        refine wp_app eltP (.tmp 72) (.tmp 86) rfl w3.heap.size _ _ _ rfl (own_mono hoc HD.out.size) [.int .i64 y0, .int .i64 y1, .int .i64 y2, .int .i64 y3] rfl (by intro u hu; simp at hu; rcases hu with rfl | rfl | rfl | rfl <;> rfl) rfl rfl (by omega) hok4.size ?_
        intro v' w5 ho5 hb5 _
        have hok5 := hok4.trans hb5
        refine hK.out _ _ (KS.out _ hok5) (fun _ => ?_)
        try simp only [Act.put, List.setIfInBounds_toArray, List.set_cons_zero, List.set_cons_succ]
        clear hK K
        have HO5 := Lib.hid ho5
        have HOK5 := Lib.hid hok5
        clear ho5 hok5 hoc hb4 hok4 hb5
        refine wpAnyH_take (i := 20) (oi := ⟨some 14, _, _, _, _, _⟩) (v := v') rfl (by kernel_rfl) (by kernel_rfl) (by kernel_rfl) (fun _ _ _ h => h) (Or.inl ⟨by kernel_rfl, fun V hV => ?_⟩) (KS.out _ HOK5.out) ?_
        · obtain ⟨q0, q1, q2, q3, q4⟩ := hV
          go_simp
        simp only [Act.put, List.setIfInBounds_toArray, List.set_cons_zero, List.set_cons_succ]
        refine wpAnyH_done (by kernel_rfl) ?_ _
        obtain ⟨ag, bg, cg, rfl, hg1, hg2, -, hgp⟩ := OwnPpl.ppl (ownp_snoc HO5.out)
        have HOW := Lib.hid (ownp_snoc HO5.out)
        have HGP := Lib.hid hgp
        clear hgp HO5
        have HL1 := Lib.hid (HL0.out)
        obtain ⟨M, hM⟩ : ∃ M, L ++ [⟨y0, y1, y2, y3⟩] = M := ⟨_, rfl⟩
        rw [hM] at HGP HOW hg1 HL1 ⊢
        have HB5 := Lib.hid (HB3.out.trans (HOK5.out.mono hs3))
        have hl41 : M.length ≤ 41 := by rw [← hM, List.length_append, List.length_singleton]; omega
        clear hM
        go_wp2_with fail
        refine (peopleI ag bg 0 cg M w5 HGP.out (by omega)).mono ?_
        rintro e w6 ⟨rfl, hb6⟩
        have HB6 := Lib.hid (HB5.out.trans (hb6.mono HB5.out.size))
        have HOW6 := Lib.hid (orow_below HOW.out hb6)
        have HBX6 := Lib.hid (boxed_bel HBOX.out HB6.out hblk)
        clear hb6
        cases hpb : pplB M with
        | true =>
          have HPB := Lib.hid hpb
          clear hpb
          go_wp2_with fail
          refine (become_t blk _ _ w6 HBX6.out ag M.length cg rfl).mono ?_
          rintro e w7 ⟨rfl, rfl⟩
          go_wp2_with fail
          go_ret2
          refine ⟨_, true, rfl, ?_, ?_, ?_⟩
          · rw [step_1 HK.out, HL1.out, if_pos HPB.out, if_pos rfl]; rfl
          · rw [step_1 HK.out, HL1.out, if_pos HPB.out]
            exact Sc.set HBX6.out (own_mono HOW6.out (Nat.le_trans hblk hs3))
          · exact ((Fr.refl _ _).below HB6.out).trans (grownBy_setCell' _ _ _)
        | false =>
          have HPB := Lib.hid hpb
          clear hpb
          go_wp2_with fail
          refine (become_f blk _ w6).mono ?_
          rintro e w7 ⟨rfl, rfl⟩
          go_wp2_with fail
          go_ret2
          refine ⟨_, false, rfl, ?_, ?_, (Fr.refl _ _).below HB6.out⟩
          · rw [step_1 HK.out, HL1.out, if_neg (by rw [HPB.out]; decide), if_neg (by decide)]
          · rw [step_1 HK.out, HL1.out, if_neg (by rw [HPB.out]; decide)]
            exact HSC.out.keep HB6.out
      · go_simp
        have hal := HD.out.alloc HD.out.size (.cells #[.int .i64 y0, .int .i64 y1, .int .i64 y2, .int .i64 y3] 69)
        refine hK.out _ _ (KS.out _ hal) (fun _ => ?_)
        try simp only [Act.put, List.setIfInBounds_toArray, List.set_cons_zero, List.set_cons_succ]
        clear hK K
        refine wpAnyH_ready (rs := [4]) (by kernel_rfl) (by simp) ?_
        refine AllReadyH.cons rfl (fun K hK => ?_) AllReadyH.nil
        rw [if_pos (by kernel_rfl)]
        go_simp
        refine (cloneP ao b cap L _ (HPPL3.out.keep hal (Nat.le_refl _)) (by omega) hc1 hnn).mono ?_
        rintro e w4 ⟨vc, rfl, hoc, hb4⟩
        have hok4 := hal.trans (hb4.mono hal.size)
        refine hK.out _ _ (KS.out _ hok4) (fun _ => ?_)
        try simp only [Act.put, List.setIfInBounds_toArray, List.set_cons_zero, List.set_cons_succ]
        clear hK K
        refine wpAnyH_ready (rs := [19]) (by kernel_rfl) (by simp) ?_
        refine AllReadyH.cons rfl (fun K hK => ?_) AllReadyH.nil
        rw [if_pos (by rfl)]
        obtain ⟨i0, hi, hz0, hz1, hz2⟩ := info_parts eltP.info
        refine wp_append_own _ (.tmp 72) (.tmp 86) _ rfl w3.heap.size 69 i0 _ 4 32 eltP.und hi hz0 hz1 hz2 eltP.zs eltP.pos _ _ _ rfl (own_mono hoc hal.size) ⟨Wd.heap.size, 0, none⟩ 1 1 [.int .i64 y0, .int .i64 y1, .int .i64 y2, .int .i64 y3] rfl rfl (fun j u hu => (hb4.cell (p := Addr.add ⟨Wd.heap.size, 0, none⟩ j) (by rw [Addr.add_lit, World.size_alloc]; exact Nat.lt_succ_self _)).trans (lit_cell Wd hu)) (by intro u hu; simp at hu; rcases hu with rfl | rfl | rfl | rfl <;> rfl) (by unfold maxLen; omega) (by omega) hok4.size ?_
        intro v' w5 ho5 hg5 _
        have hok5 := hok4.trans (below_own (own_mono hoc hal.size) hg5 hok4.size)
        refine hK.out _ _ (KS.out _ hok5) (fun _ => ?_)
        try simp only [Act.put, List.setIfInBounds_toArray, List.set_cons_zero, List.set_cons_succ]
        clear hK K
        have HO5 := Lib.hid ho5
        have HOK5 := Lib.hid hok5
        clear ho5 hok5 hoc hb4 hok4 hg5 hal hi hz0 hz1 hz2
        refine wpAnyH_take (i := 20) (oi := ⟨some 14, _, _, _, _, _⟩) (v := v') rfl (by kernel_rfl) (by kernel_rfl) (by kernel_rfl) (fun _ _ _ h => h) (Or.inl ⟨by kernel_rfl, fun V hV => ?_⟩) (KS.out _ HOK5.out) ?_
        · obtain ⟨q0, q1, q2, q3, q4⟩ := hV
          go_simp
        simp only [Act.put, List.setIfInBounds_toArray, List.set_cons_zero, List.set_cons_succ]
        refine wpAnyH_done (by kernel_rfl) ?_ _
        obtain ⟨ag, bg, cg, rfl, hg1, hg2, -, hgp⟩ := OwnPpl.ppl (ownp_snoc HO5.out)
        have HOW := Lib.hid (ownp_snoc HO5.out)
        have HGP := Lib.hid hgp
        clear hgp HO5
        have HL1 := Lib.hid (HL0.out)
        obtain ⟨M, hM⟩ : ∃ M, L ++ [⟨y0, y1, y2, y3⟩] = M := ⟨_, rfl⟩
        rw [hM] at HGP HOW hg1 HL1 ⊢
        have HB5 := Lib.hid (HB3.out.trans (HOK5.out.mono hs3))
        have hl41 : M.length ≤ 41 := by rw [← hM, List.length_append, List.length_singleton]; omega
        clear hM
        go_wp2_with fail
        refine (peopleI ag bg 0 cg M w5 HGP.out (by omega)).mono ?_
        rintro e w6 ⟨rfl, hb6⟩
        have HB6 := Lib.hid (HB5.out.trans (hb6.mono HB5.out.size))
        have HOW6 := Lib.hid (orow_below HOW.out hb6)
        have HBX6 := Lib.hid (boxed_bel HBOX.out HB6.out hblk)
        clear hb6
        cases hpb : pplB M with
        | true =>
          have HPB := Lib.hid hpb
          clear hpb
          go_wp2_with fail
          refine (become_t blk _ _ w6 HBX6.out ag M.length cg rfl).mono ?_
          rintro e w7 ⟨rfl, rfl⟩
          go_wp2_with fail
          go_ret2
          refine ⟨_, true, rfl, ?_, ?_, ?_⟩
          · rw [step_1 HK.out, HL1.out, if_pos HPB.out, if_pos rfl]; rfl
          · rw [step_1 HK.out, HL1.out, if_pos HPB.out]
            exact Sc.set HBX6.out (own_mono HOW6.out (Nat.le_trans hblk hs3))
          · exact ((Fr.refl _ _).below HB6.out).trans (grownBy_setCell' _ _ _)
        | false =>
          have HPB := Lib.hid hpb
          clear hpb
          go_wp2_with fail
          refine (become_f blk _ w6).mono ?_
          rintro e w7 ⟨rfl, rfl⟩
          go_wp2_with fail
          go_ret2
          refine ⟨_, false, rfl, ?_, ?_, (Fr.refl _ _).below HB6.out⟩
          · rw [step_1 HK.out, HL1.out, if_neg (by rw [HPB.out]; decide), if_neg (by decide)]
          · rw [step_1 HK.out, HL1.out, if_neg (by rw [HPB.out]; decide)]
            exact HSC.out.keep HB6.out
end Go.Proofs.YtlmlchkolcmhpaaGreatDoor
end

section
/-
  Contract: laws.digits at numbers that are not negative.
-/
namespace Go.Proofs.YtlmlchkolcmhpaaGreatDoor
open Go.RowKit
open Go.TextMath (word)

end Go.Proofs.YtlmlchkolcmhpaaGreatDoor
end

section
/-
  Contracts: laws.personLines, okLines, endLine; spec.DrawTableOf; the lines of a given script.
-/
namespace Go.Proofs.YtlmlchkolcmhpaaGreatDoor
open Go.RowKit
open Go.TextMath (text word)
open Go.ParseMath

end Go.Proofs.YtlmlchkolcmhpaaGreatDoor
end

section
/-
  Contracts: impl.MaskValid, spec.MaskValid.
-/
namespace Go.Proofs.YtlmlchkolcmhpaaGreatDoor
open Go.RowKit
open Go.TextMath (tvB mvB)

set_option maxHeartbeats 400000 in
theorem maskValidI (ao : Option Addr) (b off cap : Nat) (T : List (List Int)) (am : Option Addr) (bm om cm : Nat) (M : List (List Bool)) (w : World) (hr : Tab .i64 w ao b off T) (hl : T.length ≤ 9223372036854775807)
    (hm : TabB w am bm om M) (hlm : M.length ≤ 9223372036854775807) :
    Calls Tryz.prog 77 #[.slice ao T.length cap, .slice am M.length cm] w fun e w' => e = .returned (.bool (mvB T M)) ∧ w = w' := by
  have HR := Lib.hid hr
  have HM := Lib.hid hm
  clear hr hm
  cases hv : tvB T with
  | false =>
    have HV := Lib.hid hv
    go_enter Tryz.func77, Tryz.ntmps77
    go_wp2_with fail
    refine (tableValidI ao b off cap T w HR.out hl).mono ?_
    rintro e w' ⟨rfl, rfl⟩
    go_wp2_with fail
    go_ret
    exact ⟨ret_bool (mv_f (by rw [HV.out]; simp)), rfl⟩
  | true =>
    obtain ⟨t1, t2, t3, t4, t5⟩ := tv_t.1 hv
    have HV := Lib.hid hv
    have HT5 := Lib.hid t5
    obtain rfl := HR.out.1 (by omega)
    obtain ⟨a0, b0, o0, c0, hc0, _, _, _⟩ := HR.out.2 0 (by omega)
    rw [Nat.add_zero] at hc0
    obtain ⟨m, hme⟩ : ∃ m, (T.getD 0 []).length = m := ⟨_, rfl⟩
    rw [hme] at hc0 t3 t4
    have HME := Lib.hid hme
    clear hme t5
    by_cases hlen : M.length = T.length
    · have hne : ((M.length : Int) != (T.length : Int)) = false := by rw [hlen]; simp
      have HLEN := Lib.hid hlen
      have hle : M.length ≤ 4 := by omega
      have hge : T.length ≤ M.length := by omega
      obtain rfl := HM.out.1 (by omega)
      clear hlen
      go_enter Tryz.func77, Tryz.ntmps77
      go_wp2_with fail
      refine (tableValidI _ b off cap T w HR.out hl).mono ?_
      rintro e w' ⟨rfl, rfl⟩
      go_wp2_with fail
      go_loop [19] (fun t => ∃ k : Nat, k ≤ M.length ∧ t = .int .i64 k ∧ ∀ i, i < k → (M.getD i []).length = m) (fun t => M.length - (intOf t).toNat)
      case atStart => exact ⟨0, Nat.zero_le _, rfl, fun i hi => absurd hi (Nat.not_lt_zero _)⟩
      case round =>
        obtain ⟨k, hk, rfl, hold⟩ := hrel
        have Hold := Lib.hid hold
        clear hold
        by_cases hlt : k < M.length
        · obtain ⟨a', b', o', c', h1, h2, h3, h4⟩ := HM.out.2 k hlt
          obtain ⟨r, hrr⟩ : ∃ r, M.getD k [] = r := ⟨_, rfl⟩
          rw [hrr] at h1 h2 h3
          have HRR := Lib.hid hrr
          clear hrr h2
          by_cases hlr : r.length = m
          · have hnr : ((r.length : Int) != (m : Int)) = false := by rw [hlr]; simp
            have HLR := Lib.hid hlr
            clear hlr
            go_wp2_with fail
            go_round
            case rel =>
              refine ⟨k + 1, by omega, by go_num, fun i hi => ?_⟩
              by_cases e : i = k
              · subst e; rw [HRR.out]; exact HLR.out
              · exact Hold.out i (by omega)
            case measure => simp [intOf]; omega
          · have hnr : ((r.length : Int) != (m : Int)) = true := by rw [bne_iff_ne]; omega
            go_wp2_with fail
            go_ret
            exact ⟨ret_bool (mv_f (by rintro ⟨_, _, hh⟩; have := hh k hlt; rw [HRR.out, HME.out] at this; exact hlr this)), rfl⟩
        · go_wp2_with fail
          go_ret
          exact ⟨ret_bool (by symm; exact mv_t.2 ⟨HV.out, HLEN.out, fun i hi => by rw [HME.out]; exact Hold.out i (by omega)⟩), rfl⟩
    · have hne : ((M.length : Int) != (T.length : Int)) = true := by rw [bne_iff_ne]; omega
      go_enter Tryz.func77, Tryz.ntmps77
      go_wp2_with fail
      refine (tableValidI _ b off cap T w HR.out hl).mono ?_
      rintro e w' ⟨rfl, rfl⟩
      go_wp2_with fail
      go_ret
      exact ⟨ret_bool (mv_f (by rintro ⟨_, hh, _⟩; exact hlen hh)), rfl⟩

set_option maxHeartbeats 400000 in
theorem maskValidS (ao : Option Addr) (b off cap : Nat) (T : List (List Int)) (am : Option Addr) (bm om cm : Nat) (M : List (List Bool)) (w : World) (hr : Tab .i64 w ao b off T) (hl : T.length ≤ 9223372036854775807)
    (hm : TabB w am bm om M) (hlm : M.length ≤ 9223372036854775807) :
    Calls Tryz.prog 130 #[.slice ao T.length cap, .slice am M.length cm] w fun e w' => e = .returned (.bool (mvB T M)) ∧ ∃ q, w' = w.drewN q := by
  have HR := Lib.hid hr
  have HM := Lib.hid hm
  clear hr hm
  cases hv : tvB T with
  | false =>
    have HV := Lib.hid hv
    go_enter Tryz.func130, Tryz.ntmps130
    go_wp2_with fail
    refine (tableValidS ao b off cap T w HR.out hl).mono ?_
    rintro e w' ⟨rfl, q, rfl⟩
    go_wp2_with fail
    go_ret
    exact ⟨ret_bool (mv_f (by rw [HV.out]; simp)), _, rfl⟩
  | true =>
    obtain ⟨t1, t2, t3, t4, t5⟩ := tv_t.1 hv
    have HV := Lib.hid hv
    have HT5 := Lib.hid t5
    obtain rfl := HR.out.1 (by omega)
    obtain ⟨a0, b0, o0, c0, hc0, _, _, _⟩ := HR.out.2 0 (by omega)
    rw [Nat.add_zero] at hc0
    obtain ⟨m, hme⟩ : ∃ m, (T.getD 0 []).length = m := ⟨_, rfl⟩
    rw [hme] at hc0 t3 t4
    have HME := Lib.hid hme
    clear hme t5
    by_cases hlen : M.length = T.length
    · have hne : ((M.length : Int) != (T.length : Int)) = false := by rw [hlen]; simp
      have HLEN := Lib.hid hlen
      have hle : M.length ≤ 4 := by omega
      have hge : T.length ≤ M.length := by omega
      obtain rfl := HM.out.1 (by omega)
      clear hlen
      go_enter Tryz.func130, Tryz.ntmps130
      go_wp2_with fail
      refine (tableValidS _ b off cap T w HR.out hl).mono ?_
      rintro e w' ⟨rfl, q, rfl⟩
      go_wp2_with fail
      go_loopw [5] (fun t wr => (∃ k : Nat, k ≤ M.length ∧ t = .int .i64 k ∧ ∀ i, i < k → (M.getD i []).length = m) ∧ ∃ q, wr = w.drewN q) (fun t _ => M.length - (intOf t).toNat)
      case atStart => exact ⟨⟨0, Nat.zero_le _, rfl, fun i hi => absurd hi (Nat.not_lt_zero _)⟩, _, rfl⟩
      case round =>
        obtain ⟨⟨k, hk, rfl, hold⟩, q2, rfl⟩ := hrel
        have Hold := Lib.hid hold
        clear hold
        by_cases hlt : k < M.length
        · obtain ⟨a', b', o', c', h1, h2, h3, h4⟩ := HM.out.2 k hlt
          obtain ⟨r, hrr⟩ : ∃ r, M.getD k [] = r := ⟨_, rfl⟩
          rw [hrr] at h1 h2 h3
          have HRR := Lib.hid hrr
          clear hrr h2
          by_cases hlr : r.length = m
          · have hnr : ((r.length : Int) != (m : Int)) = false := by rw [hlr]; simp
            have HLR := Lib.hid hlr
            clear hlr
            go_wp2_with fail
            go_quiet (fail)
            go_wp2_with fail
            go_roundw
            case rel =>
              refine ⟨⟨k + 1, by omega, by go_num, fun i hi => ?_⟩, _, rfl⟩
              by_cases e : i = k
              · subst e; rw [HRR.out]; exact HLR.out
              · exact Hold.out i (by omega)
            case measure => simp [intOf]; omega
          · have hnr : ((r.length : Int) != (m : Int)) = true := by rw [bne_iff_ne]; omega
            go_wp2_with fail
            go_quiet (fail)
            go_wp2_with fail
            go_ret
            exact ⟨ret_bool (mv_f (by rintro ⟨_, _, hh⟩; have := hh k hlt; rw [HRR.out, HME.out] at this; exact hlr this)), _, World.drewN_drewN _ _ _⟩
        · go_wp2_with fail
          go_ret
          exact ⟨ret_bool (by symm; exact mv_t.2 ⟨HV.out, HLEN.out, fun i hi => by rw [HME.out]; exact Hold.out i (by omega)⟩), _, rfl⟩
    · have hne : ((M.length : Int) != (T.length : Int)) = true := by rw [bne_iff_ne]; omega
      go_enter Tryz.func130, Tryz.ntmps130
      go_wp2_with fail
      refine (tableValidS _ b off cap T w HR.out hl).mono ?_
      rintro e w' ⟨rfl, q, rfl⟩
      go_wp2_with fail
      go_ret
      exact ⟨ret_bool (mv_f (by rintro ⟨_, hh, _⟩; exact hlen hh)), _, rfl⟩
end Go.Proofs.YtlmlchkolcmhpaaGreatDoor
end

section
/-
  Contracts: MaskText of the program and of the reference.
-/
namespace Go.Proofs.YtlmlchkolcmhpaaGreatDoor
open Go.RowKit
open Go.TextMath (text line rowW cellW word tvB mvB)

theorem maskTextI (ao : Option Addr) (b off cap : Nat) (T : List (List Int)) (am : Option Addr) (bm om cm : Nat) (M : List (List Bool)) (w : World) (hr : Tab .i64 w ao b off T) (hl : T.length ≤ 9223372036854775807)
    (hm : TabB w am bm om M) (hlm : M.length ≤ cm ∧ cm ≤ 9223372036854775807) (ht : PowTab w) :
    Calls Tryz.prog 45 #[.slice ao T.length cap, .slice am M.length cm] w fun e w' => e = .returned (.string (mt T M)) ∧ Below w.heap.size w w' := by
  have HR := Lib.hid hr
  have HP := Lib.hid ht
  have HM := Lib.hid hm
  obtain ⟨hlm1, hlm2⟩ := hlm
  clear hr ht hm
  cases hv : mvB T M with
  | false =>
    have HT := Lib.hid (mt_f hv)
    go_enter Tryz.func45, Tryz.ntmps45
    go_wp2_with fail
    refine (maskValidI ao b off cap T am bm om cm M w HR.out hl HM.out (by omega)).mono ?_
    rintro e w' ⟨rfl, rfl⟩
    go_wp2_with fail
    go_ret
    exact ⟨by rw [HT.out]; rfl, Below.refl _ _⟩
  | true =>
    have HT := Lib.hid (mt_t hv)
    have HF := Lib.hid (tv_fit (mv_tv hv))
    have HMK : Hid (Mk w (.slice am M.length cm) T M) := by
      obtain ⟨h1, h2, h3⟩ := mv_t.1 hv
      obtain ⟨t1, t2, t3, t4, t5⟩ := tv_t.1 h1
      obtain rfl := HM.out.1 (by omega)
      refine .inr ⟨bm, om, cm, by rw [h2], by omega, hlm2, HM.out, h2, fun i hi => ?_⟩
      rw [h3 i (by omega), (t5 i hi).1]
    go_enter Tryz.func45, Tryz.ntmps45
    go_wp2_with fail
    refine (maskValidI ao b off cap T am bm om cm M w HR.out hl HM.out (by omega)).mono ?_
    rintro e w' ⟨rfl, rfl⟩
    go_wp2_with fail
    refine (cellsI ao b off cap T _ M w HR.out HF.out HMK.out HP.out).mono ?_
    rintro e w1 ⟨rfl, hb⟩
    have HB := Lib.hid hb
    clear hb
    go_wp2_with fail
    go_ret
    exact ⟨by rw [HT.out]; rfl, HB.out⟩

set_option maxHeartbeats 2000000 in
theorem maskTextS (ao : Option Addr) (b off cap : Nat) (T : List (List Int)) (am : Option Addr) (bm om cm : Nat) (M : List (List Bool)) (w : World) (hr : Tab .i64 w ao b off T) (hl : T.length ≤ 9223372036854775807)
    (hm : TabB w am bm om M) (hlm : M.length ≤ cm ∧ cm ≤ 9223372036854775807) :
    Calls Tryz.prog 99 #[.slice ao T.length cap, .slice am M.length cm] w fun e w' => e = .returned (.string (mt T M)) ∧ Below w.heap.size w w' := by
  have HR := Lib.hid hr
  have HM := Lib.hid hm
  obtain ⟨hlm1, hlm2⟩ := hlm
  clear hr hm
  cases hv : mvB T M with
  | false =>
    have HV := Lib.hid hv
    have HT := Lib.hid (mt_f hv)
    clear hv
    go_enter Tryz.func99, Tryz.ntmps99
    go_wp2_with fail
    go_loopw [5, 6] (fun o i wr => i = .int .i64 0 ∧ o = .string ⟨#[]⟩ ∧ wr = w) (fun _ _ _ => 0)
    case atStart => exact ⟨rfl, rfl, rfl⟩
    case round =>
      obtain ⟨rfl, rfl, rfl⟩ := hrel
      by_cases h0 : 0 < T.length
      · go_wp2_with fail
        refine (maskValidS ao b off cap T am bm om cm M _ HR.out hl HM.out (by omega)).mono ?_
        rintro e w' ⟨rfl, q, rfl⟩
        rw [HV.out]
        go_wp2_with fail
        go_ret
        exact ⟨by rw [HT.out]; rfl, below_draws _ _⟩
      · go_wp2_with fail
        go_ret
        exact ⟨by rw [HT.out]; rfl, Below.refl _ _⟩
  | true =>
    have HV := Lib.hid hv
    have HT := Lib.hid (mt_t hv)
    have HF := Lib.hid (tv_fit (mv_tv hv))
    obtain ⟨m1, m2, m3⟩ := mv_t.1 hv
    obtain ⟨t1, t2, t3, t4, t5⟩ := tv_t.1 m1
    obtain rfl := HR.out.1 (by omega)
    obtain rfl := HM.out.1 (by omega)
    have HM2 := Lib.hid m2
    have HM3 := Lib.hid (show ∀ i, i < T.length → (M.getD i []).length = (T.getD i []).length from fun i hi => by rw [m3 i (by omega), (t5 i hi).1])
    have hTM : T.length ≤ M.length := by omega
    have hMT : M.length ≤ T.length := by omega
    clear hv m1 m2 m3 t5
    go_enter Tryz.func99, Tryz.ntmps99
    go_wp2_with fail
    go_loopw [5, 6] (fun o i wr => ∃ k : Nat, k ≤ T.length ∧ i = .int .i64 k ∧ o = .string (bs (text (T.take k) M)) ∧ Below w.heap.size w wr) (fun _ i _ => T.length - (intOf i).toNat)
    case atStart => exact ⟨0, Nat.zero_le _, rfl, rfl, Below.refl _ _⟩
    case round =>
      obtain ⟨k, hk, rfl, rfl, hb⟩ := hrel
      have HB := Lib.hid hb
      clear hb
      have hts := text_short (M := M) HF.out k hk
      have hbz : (bs (text (T.take k) M)).size ≤ 164 := by rw [bs_size]; omega
      by_cases hlt : k < T.length
      · have HRW := Lib.hid (HR.out.keep HB.out (Nat.le_refl _))
        have HMW := Lib.hid (HM.out.keep HB.out (Nat.le_refl _))
        go_wp2_with fail
        refine (maskValidS _ b off cap T _ bm om cm M _ HRW.out hl HMW.out (by omega)).mono ?_
        rintro e w' ⟨rfl, q, rfl⟩
        rw [HV.out]
        obtain ⟨a', b', o', c', h1, h2, h3, h4⟩ := HR.out.2 k hlt
        obtain ⟨hf1, hf4, hf⟩ := HF.out.2 k hlt
        obtain ⟨a3, b3, o3, c3, g1, g2, g3, g4⟩ := HM.out.2 k (by omega)
        have hhl := HM3.out k hlt
        obtain ⟨r, hrr⟩ : ∃ r, T.getD k [] = r := ⟨_, rfl⟩
        obtain ⟨h, hh⟩ : ∃ h, M.getD k [] = h := ⟨_, rfl⟩
        rw [hrr] at h1 h2 h3 hf1 hf4 hf hhl
        rw [hh] at g1 g2 g3 hhl
        obtain rfl := h2.1 (by omega)
        obtain rfl := g2.1 (by omega)
        have HRR := Lib.hid hrr
        have HH := Lib.hid hh
        have HR2 := Lib.hid h2
        have HG2 := Lib.hid g2
        have HFF := Lib.hid hf
        have HHL := Lib.hid hhl
        have hhl1 : r.length ≤ h.length := by omega
        have hhl2 : h.length ≤ r.length := by omega
        have HH1 := Lib.hid h1
        have HG1 := Lib.hid g1
        have hbT : b < w.heap.size := World.block_lt_of_cell? _ _ h1
        have hbM : bm < w.heap.size := World.block_lt_of_cell? _ _ g1
        have hsz := HB.out.size
        clear hrr hh h2 g2 hf hhl h1 g1
        go_wp2_with fail
        have HO0 : Hid (OwnS ((wr.drewN q).alloc (.cells #[] 9)) w.heap.size (.slice (some ⟨wr.heap.size, 0, none⟩) 0 0) ((ws r h).take 0)) := by
          have := World.ownsRow_lit (base := w.heap.size) (e := 9) (size := 1) (wr.drewN q) #[] 0 hsz (by unfold maxLen; omega) (by simp)
          show OwnS _ _ _ _
          simpa [OwnS] using this
        have HB00 := Lib.hid ((HB.out.trans ((below_draws wr q).mono hsz)).alloc hsz (.cells #[] 9))
        go_loopw [7, 8] (fun v i wj => ∃ j : Nat, j ≤ r.length ∧ i = .int .i64 j ∧ OwnS wj w.heap.size v ((ws r h).take j) ∧ Below w.heap.size w wj) (fun _ i _ => r.length - (intOf i).toNat)
        case atStart => exact ⟨0, Nat.zero_le _, rfl, HO0.out, HB00.out⟩
        case round =>
          clear HO0 HB00
          obtain ⟨j, hj, rfl, ho, hb⟩ := hrel
          have HO := Lib.hid ho
          have HBJ := Lib.hid hb
          have hszj := hb.size
          have h1 := (hb.cell (p := ⟨b, off + k, none⟩) hbT).trans HH1.out
          have htl : Hid (((ws r h).take j).length = j) := by show _ = _; rw [List.length_take, ws_len]; omega
          clear ho hb
          by_cases hjn : j < r.length
          · have g1 := (HBJ.out.cell (p := ⟨bm, om + k, none⟩) hbM).trans HG1.out
            have hcx := HR2.out.2 j hjn
            have hcf := HG2.out.2 j (by omega)
            have hbx := World.block_lt_of_cell? _ _ hcx
            have hbf := World.block_lt_of_cell? _ _ hcf
            replace hcx := (HBJ.out.cell (p := ⟨b', o' + j, none⟩) hbx).trans hcx
            replace hcf := (HBJ.out.cell (p := ⟨b3, o3 + j, none⟩) hbf).trans hcf
            have hxx := HFF.out j hjn
            have hwt := ws_take (h := h) hjn
            obtain ⟨x, hxe⟩ : ∃ x, r.getD j 0 = x := ⟨_, rfl⟩
            obtain ⟨fl, hfl⟩ : ∃ fl, h.getD j false = fl := ⟨_, rfl⟩
            obtain ⟨L, hL⟩ : ∃ L, (ws r h).take j = L := ⟨_, rfl⟩
            have hol := HO.out
            rw [hL] at hol
            have HOL := Lib.hid hol
            have htl2 : Hid (L.length = j) := by have := htl.out; rw [hL] at this; exact this
            rw [hL] at hwt
            clear hL HO htl hol
            rw [hxe] at hcx hxx hwt
            rw [hfl] at hcf hwt
            obtain ⟨hx0, hx1⟩ := hxx
            have HWT := Lib.hid hwt
            have hkM : k < M.length := by omega
            have hjh : j < h.length := by omega
            clear hxe hfl hwt
            have fin : ∀ (v' : Value) (w2 : World) (s : ByteArray), s = cw x fl → w2.ownsRow w.heap.size 9 1 v' (L.length + 1) (L.map Value.string ++ [Value.string s]) → OwnS w2 w.heap.size v' ((ws r h).take (j + 1)) := by
              intro v' w2 s hs ho2
              rw [HWT.out, ← hs]
              unfold OwnS
              rw [List.length_append, List.map_append]
              exact ho2
            have FIN := Lib.hid fin
            clear fin
            cases fl with
            | true =>
              go_wp2_with (at_builtin; refine wpList_app eltS rfl (.tmp 37) (.tmp 38) rfl w.heap.size _ _ _ rfl HOL.out [.string ⟨#[120]⟩] rfl (by intro u hu; simp at hu; subst hu; rfl) rfl rfl ?c1 hszj ?_)
              case c1 => rw [htl2.out]; omega
              intro v' w2 ho2 hb2 _
              have HO2 := Lib.hid (FIN.out v' w2 _ (cw_t x).symm ho2)
              have HB2 := Lib.hid hb2
              clear ho2 hb2
              go_wp2_with fail
              go_roundw
              case rel => exact ⟨j + 1, by omega, by go_num, HO2.out, HBJ.out.trans HB2.out⟩
              case measure => simp [intOf]; omega
            | false =>
              go_wp2_with fail
              refine (decS (x.toNat + 1) x _ hx0 (by omega) hx1).mono ?_
              rintro e w1 ⟨rfl, hb1⟩
              have HB1 := Lib.hid hb1
              have HO1 := Lib.hid (HOL.out.below hb1)
              have hs1 := hb1.size
              clear hb1
              go_wp2_with (at_builtin; refine wpList_app eltS rfl (.tmp 40) (.tmp 49) rfl w.heap.size _ _ _ rfl HO1.out [.string (wd x)] rfl (by intro u hu; simp at hu; subst hu; rfl) rfl rfl ?c1 ?c2 ?_)
              case c1 => rw [htl2.out]; omega
              case c2 => omega
              intro v' w2 ho2 hb2 _
              have HO2 := Lib.hid (FIN.out v' w2 _ (cw_f x).symm ho2)
              have HB2 := Lib.hid hb2
              clear ho2 hb2
              go_wp2_with fail
              go_roundw
              case rel => exact ⟨j + 1, by omega, by go_num, HO2.out, (HBJ.out.trans (HB1.out.mono hszj)).trans HB2.out⟩
              case measure => simp [intOf]; omega
          · obtain rfl : j = r.length := by omega
            have hoe := HO.out
            rw [show (ws r h).take r.length = ws r h by rw [← ws_len r h, List.take_length]] at hoe
            obtain ⟨ao2, b2, c2, hv, hv1, hv2, hv3⟩ := hoe.row
            subst hv
            rw [ws_len] at hv1 ⊢
            have HV3 := Lib.hid hv3
            have hls := lnM_size (h := h) HFF.out hf4
            clear hoe hv3 HO htl
            go_wp2_with fail
            refine (joinM _ _ _ _ r h wr HV3.out (by omega) HFF.out).mono ?_
            rintro e w1 ⟨rfl, rfl⟩
            go_wp2_with fail
            go_roundw
            case rel =>
              refine ⟨k + 1, by omega, by go_num, ?_, HBJ.out⟩
              rw [text_take _ _ hlt, HRR.out, HH.out]
              unfold lnM
              rw [bs_add]
            case measure => simp [intOf]; omega
      · obtain rfl : k = T.length := by omega
        go_wp2_with fail
        go_ret
        exact ⟨by rw [HT.out, List.take_length]; rfl, HB.out⟩
end Go.Proofs.YtlmlchkolcmhpaaGreatDoor
end

section
/-
  Contract: a line of a script of kind 4.
-/
namespace Go.Proofs.YtlmlchkolcmhpaaGreatDoor
open Go.RowKit Go.Maps Go.WideShapes
open Go.TextMath (tvB mvB text word)
attribute [local go_sem] run_makeMap

set_option maxRecDepth 100000 in
set_option maxHeartbeats 4000000 in
theorem line4 : LineC 4 := by
  intro blk L sb scap ss w hsc hv hrow hl1 hl2 hsz _ _ hlib hkind
  obtain ⟨hk0, hkn⟩ := kind_4 hkind
  rw [wsL_len] at hkn
  rw [wsL_at ss (by omega)] at hk0
  have HX0 := Lib.hid (word_is hk0)
  have HK := Lib.hid hkind
  have HV := Lib.hid hv
  have HSC := Lib.hid hsc
  have HROW := Lib.hid hrow
  have HLIB := Lib.hid hlib
  have HSZ := Lib.hid hsz
  have HSN := Lib.hid hkn
  have h0 := hrow.2 0 (by omega)
  rw [HX0.out] at h0
  rw [Nat.zero_add] at h0
  have h40 := (ppl_t.1 hv).1
  obtain ⟨ao, b, cap, hbox, hppl, hc1, hc2, hne, hnn⟩ := hsc.ppl
  have HBOX := Lib.hid hbox
  have HPPL := Lib.hid hppl
  have HNE := Lib.hid hne
  have hblk := hbox.lt
  have hsb : sb < w.heap.size := World.block_lt_of_cell? _ _ h0
  rw [hkn] at hl1 ⊢
  have h0' : w.cell? ⟨sb, 0, none⟩ = some (.string ⟨#[116, 97, 98, 108, 101]⟩) := h0
  clear hk0 hkind hv hbox hppl hne hrow hlib hsz hkn h0
  go_enter Tryz.func19, Tryz.ntmps19
  have HM0 := Lib.hid (MapS.start w)
  go_wp2_with (refine ins_step w _ _ _ HM0.out rfl _ _ _ rfl rfl ⟨#[112, 101, 114, 115, 111, 110]⟩ rfl (by decide) 4 rfl (by decide) (by decide) ?_)
  intro W1 hm1
  have HM1 := Lib.hid hm1
  clear hm1 HM0
  go_wp2_with (refine ins_step w _ _ _ HM1.out rfl _ _ _ rfl rfl ⟨#[100, 114, 111, 112]⟩ rfl (by decide) 1 rfl (by decide) (by decide) ?_)
  intro W2 hm2
  have HM2 := Lib.hid hm2
  clear hm2 HM1
  go_wp2_with (refine ins_step w _ _ _ HM2.out rfl _ _ _ rfl rfl ⟨#[99, 111, 117, 110, 116]⟩ rfl (by decide) 3 rfl (by decide) (by decide) ?_)
  intro W3 hm3
  have HM3 := Lib.hid hm3
  clear hm3 HM2
  go_wp2_with (refine ins_step w _ _ _ HM3.out rfl _ _ _ rfl rfl ⟨#[116, 97, 98, 108, 101]⟩ rfl (by decide) 0 rfl (by decide) (by decide) ?_)
  intro W4 hm4
  have HM4 := Lib.hid hm4
  clear hm4 HM3
  go_wp2_with (refine ins_step w _ _ _ HM4.out rfl _ _ _ rfl rfl ⟨#[115, 109, 97, 108, 108]⟩ rfl (by decide) 1 rfl (by decide) (by decide) ?_)
  intro W5 hm5
  have HM5 := Lib.hid hm5
  clear hm5 HM4
  go_wp2_with (refine ins_step w _ _ _ HM5.out rfl _ _ _ rfl rfl ⟨#[103, 114, 111, 119]⟩ rfl (by decide) 2 rfl (by decide) (by decide) ?_)
  intro W6 hm6
  have HM6 := Lib.hid hm6
  clear hm6 HM5
  go_wp2_with (refine ins_step w _ _ _ HM6.out rfl _ _ _ rfl rfl ⟨#[114, 111, 117, 110, 100]⟩ rfl (by decide) 1 rfl (by decide) (by decide) ?_)
  intro W7 hm7
  have HM7 := Lib.hid hm7
  clear hm7 HM6
  go_wp2_with (refine ins_step w _ _ _ HM7.out rfl _ _ _ rfl rfl ⟨#[103, 114, 111, 117, 112, 115]⟩ rfl (by decide) 0 rfl (by decide) (by decide) ?_)
  intro W8 hm8
  have HM8 := Lib.hid hm8
  clear hm8 HM7
  have h08 := (HM8.out.2.cell (p := ⟨sb, 0, none⟩) hsb).trans h0'
  have HB8 := Lib.hid HM8.out.2
  go_wp2_with (at_lookup; refine look_step w _ HM8.out rfl _ _ rfl rfl ⟨#[116, 97, 98, 108, 101]⟩ rfl (by decide) 0 true (by decide) (by decide) ?_)
  all_goals try go_wp2_with fail
  all_goals
    go_loopw [9, 45] (fun v i wr => ∃ j : Nat, j ≤ 0 ∧ i = .int .i64 j ∧ Own wr w.heap.size v ((numsB ss).take j) ∧ Below w.heap.size w wr) (fun _ i _ => 0 - (intOf i).toNat)
    case atStart => exact ⟨0, Nat.zero_le _, rfl, by rw [List.take_zero]; exact Own.nil _ _, HB8.out⟩
    case round =>
      obtain ⟨j, hj, rfl, ho, hb⟩ := hrel
      have HO := Lib.hid ho
      have HB := Lib.hid hb
      have hsw := hb.size
      by_cases hjm : j < 0
      · exact absurd hjm (by omega)
      · obtain rfl : j = 0 := by omega
        rw [List.take_of_length_le (by have h := numsB_len ss; rw [HSN.out] at h; omega)] at ho
        obtain ⟨an, bn, cn, hvn, hn1, hn2, hnr, -⟩ := ho.row
        have hnl : (numsB ss).length = 0 := by rw [numsB_len, HSN.out]
        rw [hnl] at hvn hn1
        subst hvn
        have HNR := Lib.hid hnr
        have HNL := Lib.hid hnl
        have hbc := (boxed_bel HBOX.out hb hblk).cell
        have hp1 := HPPL.out.keep hb (Nat.le_refl _)
        clear ho hnr hnl HO
        go_wp2_with fail
        refine (tableOfI ao b 0 cap L wr hp1 HV.out).mono ?_
        rintro e w3 ⟨vt, gt, rfl, hmt, hb3⟩
        have HB3 := Lib.hid (HB.out.trans (hb3.mono hsw))
        have HNR3 := Lib.hid (HNR.out.keep hb3 (Nat.le_refl _))
        have HMT := Lib.hid (hmt.mono hsw)
        obtain ⟨at3, bt3, ct3, rfl, ht1, ht2, htab⟩ := hmt.tab
        have HTAB := Lib.hid htab
        have HTT := Lib.hid (tabO_tv HV.out)
        have hn40 : (numsB ss).length ≤ 4 := by rw [HNL.out]; decide
        have h03 := (HB3.out.cell (p := ⟨sb, 0, none⟩) hsb).trans h0'
        have hbc3 := (boxed_bel HBOX.out HB3.out hblk).cell
        have HSC3 := Lib.hid (HSC.out.keep HB3.out)
        have HLIB3 := Lib.hid (HLIB.out.keep HB3.out (Nat.le_refl _))
        have HPPL3 := Lib.hid (HPPL.out.keep HB3.out (Nat.le_refl _))
        have hs3 := HB3.out.size
        clear hb hb3 hmt htab hp1 hbc
        have htl := tabO_len L
        rw [htl] at ht1 ⊢
        have HLN := Lib.hid htl
        go_wp2_with fail
        have hTT := tableTextI at3 bt3 0 ct3 (tabO L) w3 HTAB.out (by rw [HLN.out]; decide) HLIB3.out.1.1
        rw [HLN.out] at hTT
        refine hTT.mono ?_
        rintro e w4 ⟨rfl, hb4⟩
        have HB4 := Lib.hid (HB3.out.trans (hb4.mono hs3))
        clear hb4 hTT
        go_wp2_with fail
        go_ret2
        refine ⟨_, true, rfl, ?_, ?_, (Fr.refl _ _).below HB4.out⟩
        · rw [step_4 HK.out, if_pos rfl, tt_t HTT.out]
        · rw [step_4 HK.out]
          exact HSC.out.keep HB4.out
end Go.Proofs.YtlmlchkolcmhpaaGreatDoor
end
