/-
  Plain facts: the least further question.
-/
import Derived.Test.YtjglikccikeejabVldMore
namespace Go.Proofs.Ytjglikccikeejab
open Go.AskMath (rnk tel tld)

/-- A further question that is safe and new. -/
def goodB (n : Int) (xs : List Int) (q : Nat) : Bool :=
  (if vldB n (xs ++ [(q : Int)]) then (tld n.toNat (xs ++ [(q : Int)]) n.toNat : Int) else -1) == 0 && decide (rnk n.toNat xs < rnk n.toNat (xs ++ [(q : Int)]))

theorem good_t {n : Int} {xs : List Int} {q : Nat} (h : goodB n xs q = true) : vldB n (xs ++ [(q : Int)]) = true ∧ tld n.toNat (xs ++ [(q : Int)]) n.toNat = 0 ∧ rnk n.toNat xs < rnk n.toNat (xs ++ [(q : Int)]) := by
  unfold goodB at h
  rw [Bool.and_eq_true, beq_iff_eq, decide_eq_true_eq] at h
  obtain ⟨h1, h2⟩ := h
  cases hv : vldB n (xs ++ [(q : Int)]) with
  | false => rw [hv, if_neg (by simp)] at h1; omega
  | true => rw [hv, if_pos rfl] at h1; exact ⟨rfl, by omega, h2⟩

/-- The search from a question on, for so many. -/
def nxtF (n : Int) (xs : List Int) : Nat → Nat → Nat
  | 0, _ => 0
  | f + 1, q => if goodB n xs q then q else nxtF n xs f (q + 1)
def nxt (n : Int) (xs : List Int) : Nat := nxtF n xs (2 ^ n.toNat - 1) 1

theorem nxtF_spec {n : Int} {xs : List Int} : ∀ (f q : Nat), nxtF n xs f q ≠ 0 → q ≤ nxtF n xs f q ∧ nxtF n xs f q < q + f ∧ goodB n xs (nxtF n xs f q) = true ∧ ∀ p, q ≤ p → p < nxtF n xs f q → goodB n xs p = false := by
  intro f
  induction f with
  | zero => intro q h; exact absurd rfl h
  | succ f ih =>
    intro q h
    cases hg : goodB n xs q with
    | true =>
      have e : nxtF n xs (f + 1) q = q := by simp [nxtF, hg]
      rw [e]
      exact ⟨Nat.le_refl _, by omega, hg, fun p h1 h2 => absurd h2 (by omega)⟩
    | false =>
      have e : nxtF n xs (f + 1) q = nxtF n xs f (q + 1) := by simp [nxtF, hg]
      rw [e] at h ⊢
      obtain ⟨h1, h2, h3, h4⟩ := ih (q + 1) h
      refine ⟨by omega, by omega, h3, fun p hp1 hp2 => ?_⟩
      by_cases ep : p = q
      · rw [ep]; exact hg
      · exact h4 p (by omega) hp2

theorem nxt_spec {n : Int} {xs : List Int} (h : nxt n xs ≠ 0) : 1 ≤ nxt n xs ∧ nxt n xs < 2 ^ n.toNat ∧ goodB n xs (nxt n xs) = true ∧ ∀ p, 1 ≤ p → p < nxt n xs → goodB n xs p = false := by
  obtain ⟨h1, h2, h3, h4⟩ := nxtF_spec _ _ h
  have := Nat.two_pow_pos n.toNat
  exact ⟨h1, by show nxtF n xs (2 ^ n.toNat - 1) 1 < 2 ^ n.toNat; omega, h3, h4⟩

theorem nxt_full {n : Int} {xs : List Int} (h : 12 ≤ xs.length) : nxt n xs = 0 := by
  refine Classical.byContradiction fun h0 => ?_
  obtain ⟨_, _, h3, _⟩ := nxt_spec h0
  have := (vld_iff.1 (good_t h3).1).2.2.1
  simp at this; omega

/-- One step of the search. -/
theorem nxtF_step {n : Int} {xs : List Int} {q m : Nat} (h : q < m) : nxtF n xs (m - q) q = if goodB n xs q then q else nxtF n xs (m - (q + 1)) (q + 1) := by
  obtain ⟨f, hf⟩ : ∃ f, m - q = f + 1 := ⟨m - q - 1, by omega⟩
  rw [hf, show m - (q + 1) = f from by omega]; rfl

/-- The least further question is none of the others. -/
theorem nxt_not_mem {n : Int} {xs : List Int} (h : nxt n xs ≠ 0) : (nxt n xs : Int) ∉ xs := fun hm => by
  have h3 := (good_t (nxt_spec h).2.2.1).2.2
  have := Go.AskMath.rnk_app_in (n := n.toNat) (Go.AskMath.inn_mem hm)
  omega

theorem nxt_rank {n : Int} {xs : List Int} (h : nxt n xs ≠ 0) : rnk n.toNat (xs ++ [(nxt n xs : Int)]) = rnk n.toNat xs + 1 := by
  have h3 := (good_t (nxt_spec h).2.2.1).2.2
  have := Go.AskMath.rnk_app (n := n.toNat) xs (nxt n xs : Int)
  omega

end Go.Proofs.Ytjglikccikeejab
