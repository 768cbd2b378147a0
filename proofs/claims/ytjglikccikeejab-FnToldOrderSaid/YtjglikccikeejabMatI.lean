/-
  Slices of slices of numbers that a call fills in place: rows that are made one by one; a number that is stored into a row.
-/
import Derived.Test.YtjglikccikeejabRowsS
namespace Go.Proofs.Ytjglikccikeejab
open Go.RowKit
open Go.AskMath (Mat)

/-- The first k rows of m are made; the others are nil. -/
structure PartI (w : World) (base tb m k n : Nat) (g cp : Nat → Nat) (X : Mat) : Prop where
  top : ∃ f, w.rowIs tb 23 m f ∧ (∀ i, i < k → f i = .slice (some ⟨g i, 0, none⟩) n (cp i)) ∧ ∀ i, k ≤ i → i < m → f i = .slice none 0 0
  row : ∀ i, i < k → ∃ f, w.rowIs (g i) 3 (cp i) f ∧ ∀ j, j < n → f j = .int .i64 (X i j)
  nle : ∀ i, i < k → n ≤ cp i
  baseT : base ≤ tb
  baseG : ∀ i, i < k → base ≤ g i
  ne : ∀ i, i < k → g i ≠ tb
  inj : ∀ i j, i < k → j < k → g i = g j → i = j

theorem PartI.ltT {w : World} {base tb m k n : Nat} {g cp : Nat → Nat} {X : Mat} (h : PartI w base tb m k n g cp X) : tb < w.heap.size := by
  obtain ⟨f, hf, _⟩ := h.top
  exact hf.lt
theorem PartI.ltR {w : World} {base tb m k n : Nat} {g cp : Nat → Nat} {X : Mat} (h : PartI w base tb m k n g cp X) {i : Nat} (hi : i < k) : g i < w.heap.size := by
  obtain ⟨f, hf, _⟩ := h.row i hi
  exact hf.lt
theorem PartI.mx {w : World} {base tb m n : Nat} {g cp : Nat → Nat} {X : Mat} (h : PartI w base tb m m n g cp X) : Mx w base tb m m n g cp X := by
  obtain ⟨f, hf, h1, _⟩ := h.top
  exact ⟨⟨f, hf, h1⟩, Nat.le_refl _, h.row, h.nle, h.baseT, h.baseG, h.ne, h.inj⟩

/-- The row that is being made: the rows' own block has it, all other blocks that lay there lie as they lay. -/
structure Making (w w' : World) (tb m k : Nat) (v : Value) : Prop where
  fr : Fr tb w w'
  cells : ∀ f, w.rowIs tb 23 m f → w'.rowIs tb 23 m (fun i => if i = k then v else f i)

theorem Making.refl {w : World} {tb m k : Nat} {f : Nat → Value} (hf : w.rowIs tb 23 m f) : Making w w tb m k (f k) :=
  ⟨Fr.refl _ _, fun f' hf' => by
    refine hf'.congr fun i hi => ?_
    by_cases e : i = k
    · rw [if_pos e, e]
      have h1 := hf'.cell (show k < m by omega)
      have h2 := hf.cell (show k < m by omega)
      rw [h1] at h2
      injection h2
    · rw [if_neg e]⟩

/-- An append that leaves the rows' own block alone, then the store of what it gave. -/
theorem Making.store {w w1 w2 : World} {tb m k : Nat} {v : Value} (h : Making w w1 tb m k v) {B : Nat} (hb : Below B w1 w2) (hB : w.heap.size ≤ B) (htb : tb < w.heap.size) (v' : Value) : Making w (w2.setCell ⟨tb, k, none⟩ v') tb m k v' := by
  have h2 : Fr tb w w2 := ⟨hb.os.trans h.fr.os, hb.tape.trans h.fr.tape, hb.output.trans h.fr.output, Nat.le_trans h.fr.size hb.size, fun i hi hne => (hb.block i (by omega)).trans (h.fr.block i hi hne)⟩
  refine ⟨⟨h2.os, h2.tape, h2.output, by rw [World.size_setCell]; exact h2.size, fun i hi hne => ?_⟩, fun f hf => ?_⟩
  · rw [Below.heap_setCell _ _ _ _ (show i ≠ tb from fun e => hne (by rw [e]))]
    exact h2.block i hi hne
  · refine (((h.cells f hf).of_block (hb.block tb (by omega))).set k v').congr fun i _ => ?_
    by_cases e : i = k
    · rw [if_pos e, if_pos e]
    · rw [if_neg e, if_neg e, if_neg e]

theorem Making.drew {w w1 : World} {tb m k : Nat} {v : Value} (h : Making w w1 tb m k v) : Making w w1.drew tb m k v := ⟨h.fr.drew, h.cells⟩

/-- One row more. -/
theorem PartI.snoc {w w' : World} {base tb m k n : Nat} {g cp : Nat → Nat} {X : Mat} (h : PartI w base tb m k n g cp X) {x c : Nat} {f : Nat → Value} (hm : Making w w' tb m k (.slice (some ⟨x, 0, none⟩) n c))
    (hf : w'.rowIs x 3 c f) (hX : ∀ j, j < n → f j = .int .i64 (X k j)) (hc : n ≤ c) (hx : w.heap.size ≤ x) : PartI w' base tb m (k + 1) n (upd g k x) (upd cp k c) X := by
  have hT := h.ltT
  obtain ⟨ft, hft, h1, h2⟩ := h.top
  refine ⟨⟨_, hm.cells ft hft, fun i hi => ?_, fun i hi1 hi2 => ?_⟩, fun i hi => ?_, fun i hi => ?_, h.baseT, fun i hi => ?_, fun i hi => ?_, fun i j hi hj e => ?_⟩
  · by_cases e : i = k
    · rw [if_pos e]; unfold upd; rw [if_pos e, if_pos e]
    · rw [if_neg e]; unfold upd; rw [if_neg e, if_neg e]; exact h1 i (by omega)
  · rw [if_neg (by omega)]; exact h2 i (by omega) hi2
  · by_cases e : i = k
    · subst e
      exact ⟨f, by unfold upd; rw [if_pos rfl, if_pos rfl]; exact hf, hX⟩
    · obtain ⟨fr, hfr, her⟩ := h.row i (by omega)
      have hne := h.ne i (by omega)
      exact ⟨fr, by unfold upd; rw [if_neg e, if_neg e]; exact hfr.of_block (hm.fr.block _ hfr.lt (fun e2 => hne (by injection e2))), her⟩
  · unfold upd; split
    · exact hc
    · exact h.nle i (by omega)
  · have := h.baseT
    unfold upd; split
    · omega
    · exact h.baseG i (by omega)
  · unfold upd; split
    · omega
    · exact h.ne i (by omega)
  · unfold upd at e
    by_cases e1 : i = k
    · by_cases e2 : j = k
      · omega
      · rw [if_pos e1, if_neg e2] at e
        have := h.ltR (show j < k by omega)
        omega
    · by_cases e2 : j = k
      · rw [if_neg e1, if_pos e2] at e
        have := h.ltR (show i < k by omega)
        omega
      · rw [if_neg e1, if_neg e2] at e; exact h.inj i j (by omega) (by omega) e

/-- A number is stored into a row. -/
def setM (R : Mat) (i j : Nat) (x : Int) : Mat := fun a b => if a = i ∧ b = j then x else R a b

theorem Mx.set {w : World} {base tb mc m n : Nat} {g cp : Nat → Nat} {R : Mat} (h : Mx w base tb mc m n g cp R) {i : Nat} (hi : i < m) (j : Nat) (x : Int) : Mx (w.setCell ⟨g i, j, none⟩ (.int .i64 x)) base tb mc m n g cp (setM R i j x) := by
  obtain ⟨ft, hft, het⟩ := h.top
  refine ⟨⟨ft, hft.setOther (by show tb ≠ g i; exact Ne.symm (h.ne i hi)) _, het⟩, h.mle, fun a ha => ?_, h.nle, h.baseT, h.baseG, h.ne, h.inj⟩
  obtain ⟨f, hf, he⟩ := h.row a ha
  by_cases e : a = i
  · subst e
    refine ⟨_, hf.set j _, fun b hb => ?_⟩
    unfold setM
    by_cases e2 : b = j
    · rw [if_pos e2, if_pos ⟨rfl, e2⟩]
    · rw [if_neg e2, if_neg (fun hh => e2 hh.2)]; exact he b hb
  · refine ⟨f, hf.setOther (by show g a ≠ g i; exact fun e3 => e (h.inj a i ha hi e3)) _, fun b hb => ?_⟩
    unfold setM; rw [if_neg (fun hh => e hh.1)]; exact he b hb

end Go.Proofs.Ytjglikccikeejab
