/-
  Slices of slices of numbers: what a matrix is in memory; contract: spec.l33Find.
-/
import Derived.Test.YtjglikccikeejabOwn
import Derived.Test.YtjglikccikeejabRankMath
namespace Go.Proofs.Ytjglikccikeejab
open Go.RowKit
open Go.AskMath (Mat)

/-- A matrix of m rows of n numbers that lies in memory from block 'base' on: its own block 'tb', a block 'g i' for each row. -/
structure Mx (w : World) (base tb mc m n : Nat) (g cp : Nat → Nat) (R : Mat) : Prop where
  top : ∃ f, w.rowIs tb 23 mc f ∧ ∀ i, i < m → f i = .slice (some ⟨g i, 0, none⟩) n (cp i)
  mle : m ≤ mc
  row : ∀ i, i < m → ∃ f, w.rowIs (g i) 3 (cp i) f ∧ ∀ j, j < n → f j = .int .i64 (R i j)
  nle : ∀ i, i < m → n ≤ cp i
  baseT : base ≤ tb
  baseG : ∀ i, i < m → base ≤ g i
  ne : ∀ i, i < m → g i ≠ tb
  inj : ∀ i j, i < m → j < m → g i = g j → i = j

theorem Mx.cellT {w : World} {base tb mc m n : Nat} {g cp : Nat → Nat} {R : Mat} (h : Mx w base tb mc m n g cp R) {i : Nat} (hi : i < m) : w.cell? ⟨tb, i, none⟩ = some (.slice (some ⟨g i, 0, none⟩) n (cp i)) := by
  obtain ⟨f, hf, he⟩ := h.top
  rw [hf.cell (Nat.lt_of_lt_of_le hi h.mle), he i hi]
theorem Mx.frozenT {w : World} {base tb mc m n : Nat} {g cp : Nat → Nat} {R : Mat} (h : Mx w base tb mc m n g cp R) (i : Nat) : w.frozen? ⟨tb, i, none⟩ = false := by
  obtain ⟨f, hf, _⟩ := h.top
  exact hf.frozen i
theorem Mx.cellR {w : World} {base tb mc m n : Nat} {g cp : Nat → Nat} {R : Mat} (h : Mx w base tb mc m n g cp R) {i j : Nat} (hi : i < m) (hj : j < n) : w.cell? ⟨g i, j, none⟩ = some (.int .i64 (R i j)) := by
  obtain ⟨f, hf, he⟩ := h.row i hi
  rw [hf.cell (Nat.lt_of_lt_of_le hj (h.nle i hi)), he j hj]
theorem Mx.frozenR {w : World} {base tb mc m n : Nat} {g cp : Nat → Nat} {R : Mat} (h : Mx w base tb mc m n g cp R) {i : Nat} (hi : i < m) (j : Nat) : w.frozen? ⟨g i, j, none⟩ = false := by
  obtain ⟨f, hf, _⟩ := h.row i hi
  exact hf.frozen j
theorem Mx.ltT {w : World} {base tb mc m n : Nat} {g cp : Nat → Nat} {R : Mat} (h : Mx w base tb mc m n g cp R) : tb < w.heap.size := by
  obtain ⟨f, hf, _⟩ := h.top
  exact hf.lt
theorem Mx.ltR {w : World} {base tb mc m n : Nat} {g cp : Nat → Nat} {R : Mat} (h : Mx w base tb mc m n g cp R) {i : Nat} (hi : i < m) : g i < w.heap.size := by
  obtain ⟨f, hf, _⟩ := h.row i hi
  exact hf.lt
/-- What leaves the matrix's blocks alone. -/
theorem Mx.of_blocks {w w' : World} {base tb mc m n : Nat} {g cp : Nat → Nat} {R : Mat} (h : Mx w base tb mc m n g cp R) (hT : w'.heap[tb]? = w.heap[tb]?) (hG : ∀ i, i < m → w'.heap[g i]? = w.heap[g i]?) : Mx w' base tb mc m n g cp R := by
  obtain ⟨f, hf, he⟩ := h.top
  refine ⟨⟨f, hf.of_block hT, he⟩, h.mle, fun i hi => ?_, h.nle, h.baseT, h.baseG, h.ne, h.inj⟩
  obtain ⟨f, hf, he⟩ := h.row i hi
  exact ⟨f, hf.of_block (hG i hi), he⟩
theorem Mx.drewN {w : World} {base tb mc m n : Nat} {g cp : Nat → Nat} {R : Mat} (h : Mx w base tb mc m n g cp R) (q : Nat) : Mx (w.drewN q) base tb mc m n g cp R := h.of_blocks rfl fun _ _ => rfl
theorem Mx.drew {w : World} {base tb mc m n : Nat} {g cp : Nat → Nat} {R : Mat} (h : Mx w base tb mc m n g cp R) : Mx w.drew base tb mc m n g cp R := h.of_blocks rfl fun _ _ => rfl
theorem Mx.below {w w' : World} {base tb mc m n : Nat} {g cp : Nat → Nat} {R : Mat} (h : Mx w base tb mc m n g cp R) {B : Nat} (hb : Below B w w') (hB : w.heap.size ≤ B) : Mx w' base tb mc m n g cp R :=
  h.of_blocks (hb.block _ (Nat.lt_of_lt_of_le h.ltT hB)) fun _ hi => hb.block _ (Nat.lt_of_lt_of_le (h.ltR hi) hB)

/-- What a search in a column finds. -/
def Found (m from_ c : Nat) (R : Mat) (w : World) (e : Ending) (w' : World) : Prop :=
  w = w' ∧ ((e = .returned (.int .i64 (-1)) ∧ ∀ k, from_ ≤ k → k < m → R k c = 0) ∨ ∃ k : Nat, e = .returned (.int .i64 k) ∧ from_ ≤ k ∧ k < m ∧ R k c ≠ 0 ∧ ∀ j, from_ ≤ j → j < k → R j c = 0)

set_option maxHeartbeats 400000 in
theorem find_any {w : World} {base tb mc m n : Nat} {g cp : Nat → Nat} {R : Mat} (h : Mx w base tb mc m n g cp R) (r c : Nat) (hr : r ≤ m) (hc : c < n) (hm : m ≤ 1000000) :
    Calls Try.prog 48 #[.slice (some ⟨tb, 0, none⟩) m mc, .int .i64 r, .int .i64 c] w (Found m r c R w) := by
  go_enter Try.func48, Try.ntmps48
  go_wp2_with fail
  go_loop [7] (fun i => ∃ k : Nat, r ≤ k ∧ k ≤ m ∧ i = .int .i64 k ∧ ∀ j, r ≤ j → j < k → R j c = 0) (fun i => m - (intOf i).toNat)
  case atStart => exact ⟨r, Nat.le_refl _, hr, rfl, by omega⟩
  case round =>
    obtain ⟨k, hk1, hk2, rfl, hz⟩ := hrel
    have HZ := Lib.hid hz
    clear hz
    by_cases hlt : k < m
    · have t1 := h.cellT hlt
      have t2 := h.cellR hlt hc
      have hn : c < cp k := Nat.lt_of_lt_of_le hc (h.nle k hlt)
      obtain ⟨v, hv⟩ : ∃ v, R k c = v := ⟨_, rfl⟩
      rw [hv] at t2
      have HV := Lib.hid hv
      clear hv
      by_cases h0 : v = 0
      · have hq : (v != 0) = false := by simp [h0]
        have H0 := Lib.hid h0
        clear h0
        go_wp2_with fail
        go_round
        case rel =>
          refine ⟨k + 1, by omega, by omega, by go_num, fun j h1 h2 => ?_⟩
          by_cases e : j = k
          · rw [e, HV.out, H0.out]
          · exact HZ.out j h1 (by omega)
        case measure => simp [intOf]; omega
      · have hq : (v != 0) = true := by simp [h0]
        have H0 := Lib.hid h0
        clear h0
        go_wp2_with fail
        go_ret
        exact ⟨rfl, .inr ⟨k, rfl, hk1, hlt, by rw [HV.out]; exact H0.out, HZ.out⟩⟩
    · go_wp2_with fail
      go_ret
      exact ⟨rfl, .inl ⟨rfl, fun j h1 h2 => HZ.out j h1 (by omega)⟩⟩

end Go.Proofs.Ytjglikccikeejab
