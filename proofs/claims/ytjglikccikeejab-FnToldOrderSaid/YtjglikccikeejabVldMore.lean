/-
  Plain facts: which questions are valid when some are laid beside others.
-/
import Derived.Test.YtjglikccikeejabValid
import Derived.Test.YtjglikccikeejabAskMath
namespace Go.Proofs.Ytjglikccikeejab

theorem vld_iff {n : Int} {xs : List Int} : vldB n xs = true ↔ 1 ≤ n ∧ n ≤ 6 ∧ xs.length ≤ 12 ∧ ∀ q ∈ xs, 1 ≤ q ∧ q < 2 ^ n.toNat := by
  simp only [vldB, decide_eq_true_eq]
  constructor
  · rintro ⟨h1, h2, h3, h4⟩
    refine ⟨h1, h2, h3, fun q hq => ?_⟩
    obtain ⟨i, hi, rfl⟩ := List.getElem_of_mem hq
    have := h4 i hi
    simpa [List.getD_eq_getElem?_getD, List.getElem?_eq_getElem hi] using this
  · rintro ⟨h1, h2, h3, h4⟩
    refine ⟨h1, h2, h3, fun i hi => ?_⟩
    have := h4 xs[i] (List.getElem_mem hi)
    simpa [List.getD_eq_getElem?_getD, List.getElem?_eq_getElem hi] using this

theorem vld_sub {n : Int} {xs ys : List Int} (h : vldB n xs = true) (hs : ∀ q ∈ ys, q ∈ xs) (hl : ys.length ≤ 12) : vldB n ys = true := by
  obtain ⟨h1, h2, _, h4⟩ := vld_iff.1 h
  exact vld_iff.2 ⟨h1, h2, hl, fun q hq => h4 q (hs q hq)⟩

theorem vld_app {n : Int} {xs ys : List Int} (h : vldB n xs = true) (hy : ∀ q ∈ ys, 1 ≤ q ∧ q < 2 ^ n.toNat) (hl : xs.length + ys.length ≤ 12) : vldB n (xs ++ ys) = true := by
  obtain ⟨h1, h2, _, h4⟩ := vld_iff.1 h
  refine vld_iff.2 ⟨h1, h2, by simpa using hl, fun q hq => ?_⟩
  rcases List.mem_append.1 hq with hq | hq
  · exact h4 q hq
  · exact hy q hq

theorem vld_front {n : Int} {xs ys : List Int} (h : vldB n (xs ++ ys) = true) : vldB n xs = true := by
  obtain ⟨h1, h2, h3, h4⟩ := vld_iff.1 h
  exact vld_iff.2 ⟨h1, h2, by simp at h3; omega, fun q hq => h4 q (List.mem_append_left _ hq)⟩

end Go.Proofs.Ytjglikccikeejab
