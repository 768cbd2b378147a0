/-
  A slice of slices of flags that is only read.
-/
import Derived.Test.YthncpnopplhlkaaDoorTab
import Derived.Test.YthncpnopplhlkaaDoorTextMath
namespace Go.Proofs.YthncpnopplhlkaaDoor
open Go.RowKit
open Go.TextMath (tvB mvB)

/-- A row of flags. -/
def RowB (w : World) (ao : Option Addr) (b off : Nat) (xs : List Bool) : Prop :=
  (0 < xs.length → ao = some ⟨b, off, none⟩) ∧ ∀ i, i < xs.length → w.cell? ⟨b, off + i, none⟩ = some (.bool (xs.getD i false))
theorem RowB.keep {w w' : World} {ao : Option Addr} {b off : Nat} {xs : List Bool} (h : RowB w ao b off xs) {B : Nat} (hb : Below B w w') (hB : w.heap.size ≤ B) : RowB w' ao b off xs :=
  ⟨h.1, fun i hi => by
    have h0 := h.2 i hi
    have hlt := World.block_lt_of_cell? _ _ h0
    rw [hb.cell (p := ⟨b, off + i, none⟩) (Nat.lt_of_lt_of_le hlt hB)]; exact h0⟩
/-- Rows of flags. -/
def TabB (w : World) (ao : Option Addr) (b off : Nat) (M : List (List Bool)) : Prop :=
  (0 < M.length → ao = some ⟨b, off, none⟩) ∧ ∀ i, i < M.length → ∃ a' b' o' c', w.cell? ⟨b, off + i, none⟩ = some (.slice a' (M.getD i []).length c') ∧
    RowB w a' b' o' (M.getD i []) ∧ (M.getD i []).length ≤ c' ∧ c' ≤ 9223372036854775807
theorem TabB.keep {w w' : World} {ao : Option Addr} {b off : Nat} {M : List (List Bool)} (h : TabB w ao b off M) {B : Nat} (hb : Below B w w') (hB : w.heap.size ≤ B) : TabB w' ao b off M := by
  refine ⟨h.1, fun i hi => ?_⟩
  obtain ⟨a', b', o', c', h1, h2, h3, h4⟩ := h.2 i hi
  exact ⟨a', b', o', c', (hb.cell (p := ⟨b, off + i, none⟩) (Nat.lt_of_lt_of_le (lt_of_cell h1) hB)).trans h1, h2.keep hb hB, h3, h4⟩
theorem TabB.drewN {w : World} {ao : Option Addr} {b off : Nat} {M : List (List Bool)} (h : TabB w ao b off M) (q : Nat) : TabB (w.drewN q) ao b off M := h
theorem Tab.drewN {k : IntKind} {w : World} {ao : Option Addr} {b off : Nat} {T : List (List Int)} (h : Tab k w ao b off T) (q : Nat) : Tab k (w.drewN q) ao b off T := h

theorem mv_t {T : List (List Int)} {M : List (List Bool)} : mvB T M = true ↔ tvB T = true ∧ M.length = T.length ∧ ∀ i, i < M.length → (M.getD i []).length = (T.getD 0 []).length := by
  simp only [mvB, Bool.and_eq_true, decide_eq_true_eq]
theorem mv_f {T : List (List Int)} {M : List (List Bool)} (h : ¬ (tvB T = true ∧ M.length = T.length ∧ ∀ i, i < M.length → (M.getD i []).length = (T.getD 0 []).length)) : false = mvB T M := by
  symm; rw [Bool.eq_false_iff]; exact fun hh => h (mv_t.1 hh)
end Go.Proofs.YthncpnopplhlkaaDoor
