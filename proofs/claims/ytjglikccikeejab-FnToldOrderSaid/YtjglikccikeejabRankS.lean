/-
  Contract: spec.l33Rank.
-/
import Derived.Test.YtjglikccikeejabMat
import Derived.StillTailTactics
namespace Go.Proofs.Ytjglikccikeejab
open Go.RowKit
open Go.AskMath (Mat Path barN swpM)

theorem Mx.congr {w : World} {base tb mc m n : Nat} {g cp : Nat → Nat} {R R' : Mat} (h : Mx w base tb mc m n g cp R) (e : ∀ i, i < m → ∀ j, j < n → R i j = R' i j) : Mx w base tb mc m n g cp R' := by
  refine ⟨h.top, h.mle, fun i hi => ?_, h.nle, h.baseT, h.baseG, h.ne, h.inj⟩
  obtain ⟨f, hf, he⟩ := h.row i hi
  exact ⟨f, hf, fun j hj => by rw [he j hj, e i hi j hj]⟩

def upd {α : Type} (f : Nat → α) (i : Nat) (x : α) : Nat → α := fun j => if j = i then x else f j

/-- A new row is laid into the matrix. -/
theorem Mx.put {w : World} {base tb mc m n : Nat} {g cp : Nat → Nat} {R : Mat} (h : Mx w base tb mc m n g cp R) {i nb : Nat} (hi : i < m) {f : Nat → Value} (X : Nat → Int) (hf : w.rowIs nb 3 n f) (hX : ∀ j, j < n → f j = .int .i64 (X j))
    (hb : base ≤ nb) (hT : nb ≠ tb) (hg : ∀ k, k < m → g k ≠ nb) :
    Mx (w.setCell ⟨tb, i, none⟩ (.slice (some ⟨nb, 0, none⟩) n n)) base tb mc m n (upd g i nb) (upd cp i n) (upd R i X) := by
  obtain ⟨ft, hft, het⟩ := h.top
  refine ⟨⟨_, hft.set i _, fun k hk => ?_⟩, h.mle, fun k hk => ?_, fun k hk => ?_, h.baseT, fun k hk => ?_, fun k hk => ?_, fun k l hk hl e => ?_⟩
  · by_cases e : k = i
    · subst e; simp [upd]
    · simp only [upd, if_neg e]; exact het k hk
  · by_cases e : k = i
    · subst e
      refine ⟨f, ?_, fun j hj => ?_⟩
      · simp only [upd, if_true]; exact hf.setOther (by show nb ≠ tb; exact hT) _
      · simp only [upd, if_true]; exact hX j hj
    · obtain ⟨fr, hfr, her⟩ := h.row k hk
      refine ⟨fr, ?_, fun j hj => ?_⟩
      · simp only [upd, if_neg e]; exact hfr.setOther (by show g k ≠ tb; exact h.ne k hk) _
      · simp only [upd, if_neg e]; exact her j hj
  · by_cases e : k = i
    · subst e; simp [upd]
    · simp only [upd, if_neg e]; exact h.nle k hk
  · by_cases e : k = i
    · subst e; simpa [upd] using hb
    · simp only [upd, if_neg e]; exact h.baseG k hk
  · by_cases e : k = i
    · subst e; simpa [upd] using hT
    · simp only [upd, if_neg e]; exact h.ne k hk
  · by_cases e1 : k = i
    · by_cases e2 : l = i
      · omega
      · subst e1; simp only [upd, if_true, if_neg e2] at e; exact absurd e.symm (hg l hl)
    · by_cases e2 : l = i
      · subst e2; simp only [upd, if_true, if_neg e1] at e; exact absurd e (hg k hk)
      · simp only [upd, if_neg e1, if_neg e2] at e; exact h.inj k l hk hl e

/-- Two rows exchanged, by their places in the matrix's own block. -/
theorem Mx.swap {w : World} {base tb mc m n : Nat} {g cp : Nat → Nat} {R : Mat} (h : Mx w base tb mc m n g cp R) {r k : Nat} (hr : r < m) (hk : k < m) :
    Mx ((w.setCell ⟨tb, k, none⟩ (.slice (some ⟨g r, 0, none⟩) n (cp r))).setCell ⟨tb, r, none⟩ (.slice (some ⟨g k, 0, none⟩) n (cp k))) base tb mc m n
      (fun i => if i = r then g k else if i = k then g r else g i) (fun i => if i = r then cp k else if i = k then cp r else cp i) (swpM R r k) := by
  obtain ⟨ft, hft, het⟩ := h.top
  have rows : ∀ i, i < m → ∃ f, ((w.setCell ⟨tb, k, none⟩ (.slice (some ⟨g r, 0, none⟩) n (cp r))).setCell ⟨tb, r, none⟩ (.slice (some ⟨g k, 0, none⟩) n (cp k))).rowIs (g i) 3 (cp i) f ∧ ∀ j, j < n → f j = .int .i64 (R i j) := fun i hi => by
    obtain ⟨f, hf, he⟩ := h.row i hi
    exact ⟨f, (hf.setOther (by show g i ≠ tb; exact h.ne i hi) _).setOther (by show g i ≠ tb; exact h.ne i hi) _, he⟩
  refine ⟨⟨_, (hft.set k _).set r _, fun i hi => ?_⟩, h.mle, fun i hi => ?_, fun i hi => ?_, h.baseT, fun i hi => ?_, fun i hi => ?_, fun i j hi hj e => ?_⟩
  · by_cases e1 : i = r
    · simp [e1]
    · by_cases e2 : i = k
      · rw [if_neg e1, if_pos e2, if_neg e1, if_pos e2, if_neg e1, if_pos e2]
      · simp only [if_neg e1, if_neg e2]; exact het i hi
  · by_cases e1 : i = r
    · simp only [if_pos e1, swpM]; exact rows k hk
    · by_cases e2 : i = k
      · simp only [if_neg e1, if_pos e2, swpM]; exact rows r hr
      · simp only [if_neg e1, if_neg e2, swpM]; exact rows i hi
  · by_cases e1 : i = r
    · simp only [if_pos e1]; exact h.nle k hk
    · by_cases e2 : i = k
      · simp only [if_neg e1, if_pos e2]; exact h.nle r hr
      · simp only [if_neg e1, if_neg e2]; exact h.nle i hi
  · by_cases e1 : i = r
    · simp only [if_pos e1]; exact h.baseG k hk
    · by_cases e2 : i = k
      · simp only [if_neg e1, if_pos e2]; exact h.baseG r hr
      · simp only [if_neg e1, if_neg e2]; exact h.baseG i hi
  · by_cases e1 : i = r
    · simp only [if_pos e1]; exact h.ne k hk
    · by_cases e2 : i = k
      · simp only [if_neg e1, if_pos e2]; exact h.ne r hr
      · simp only [if_neg e1, if_neg e2]; exact h.ne i hi
  · have key : ∀ a b, a < m → b < m → g a = g b → a = b := h.inj
    have s : ∀ i, (if i = r then g k else if i = k then g r else g i) = g (if i = r then k else if i = k then r else i) := fun i => by
      by_cases e1 : i = r
      · rw [if_pos e1, if_pos e1]
      · by_cases e2 : i = k
        · rw [if_neg e1, if_neg e1, if_pos e2, if_pos e2]
        · rw [if_neg e1, if_neg e1, if_neg e2, if_neg e2]
    have sm : ∀ i, i < m → (if i = r then k else if i = k then r else i) < m := fun i hi => by
      by_cases e1 : i = r
      · rw [if_pos e1]; exact hk
      · by_cases e2 : i = k
        · rw [if_neg e1, if_pos e2]; exact hr
        · rw [if_neg e1, if_neg e2]; exact hi
    have e0 : (if i = r then g k else if i = k then g r else g i) = (if j = r then g k else if j = k then g r else g j) := e
    rw [s i, s j] at e0
    have e' := key _ _ (sm i hi) (sm j hj) e0
    by_cases a1 : i = r
    · by_cases b1 : j = r
      · omega
      · by_cases b2 : j = k
        · rw [if_pos a1, if_neg b1, if_pos b2] at e'; omega
        · rw [if_pos a1, if_neg b1, if_neg b2] at e'; omega
    · by_cases a2 : i = k
      · by_cases b1 : j = r
        · rw [if_neg a1, if_pos a2, if_pos b1] at e'; omega
        · by_cases b2 : j = k
          · omega
          · rw [if_neg a1, if_pos a2, if_neg b1, if_neg b2] at e'; omega
      · by_cases b1 : j = r
        · rw [if_neg a1, if_neg a2, if_pos b1] at e'; omega
        · by_cases b2 : j = k
          · rw [if_neg a1, if_neg a2, if_neg b1, if_pos b2] at e'; omega
          · rw [if_neg a1, if_neg a2, if_neg b1, if_neg b2] at e'; exact e'

end Go.Proofs.Ytjglikccikeejab
