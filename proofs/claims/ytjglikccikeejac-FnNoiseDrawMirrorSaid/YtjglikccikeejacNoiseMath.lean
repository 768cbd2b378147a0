/-
  Plain mathematics of the noise: weights, their sums, and the number that a lot draws.
-/
import Derived.Test.YtjglikccikeejacRows
namespace Go.Proofs.Ytjglikccikeejac

def dist (x y : Nat) : Nat := if x ≤ y then y - x else x - y

/-- The weight of y for x. -/
def wN (n a x y : Nat) : Int := (if y = 0 ∨ y = n then (a : Int) else a - 1) * (a : Int) ^ (n - dist x y)

/-- The sum of the weights of the numbers below k. -/
def cum (n a x : Nat) : Nat → Int
  | 0 => 0
  | k + 1 => cum n a x k + wN n a x k

theorem pow_small {a k n : Nat} (ha : 2 ≤ a) (ha5 : a ≤ 5) (hk : k ≤ n) (hn : n ≤ 12) : 1 ≤ (a : Int) ^ k ∧ (a : Int) ^ k ≤ 244140625 := by
  have h1 : 1 ≤ a ^ k := Nat.one_le_pow _ _ (by omega)
  have h2 : a ^ k ≤ 5 ^ k := Nat.pow_le_pow_left ha5 k
  have h3 : 5 ^ k ≤ 5 ^ 12 := Nat.pow_le_pow_right (by decide) (by omega)
  have h4 : (5 : Nat) ^ 12 = 244140625 := by decide
  rw [← Int.natCast_pow]
  omega

theorem wN_bound {n a x y : Nat} (ha : 2 ≤ a) (ha5 : a ≤ 5) (hn : n ≤ 12) : 1 ≤ wN n a x y ∧ wN n a x y ≤ 1220703125 := by
  obtain ⟨h1, h2⟩ := pow_small ha ha5 (Nat.sub_le n (dist x y)) hn
  unfold wN
  generalize (a : Int) ^ (n - dist x y) = p at *
  have ha' : (a : Int) = 2 ∨ (a : Int) = 3 ∨ (a : Int) = 4 ∨ (a : Int) = 5 := by omega
  split
  · rcases ha' with h | h | h | h <;> rw [h] <;> omega
  · rcases ha' with h | h | h | h <;> rw [h] <;> omega

theorem cum_mono {n a x : Nat} (ha : 2 ≤ a) (ha5 : a ≤ 5) (hn : n ≤ 12) {j k : Nat} (h : j ≤ k) : cum n a x j ≤ cum n a x k := by
  induction h with
  | refl => exact Int.le_refl _
  | @step m _ ih => have := (wN_bound (x := x) (y := m) ha ha5 hn).1; simp only [cum]; omega

theorem cum_nonneg {n a x : Nat} (ha : 2 ≤ a) (ha5 : a ≤ 5) (hn : n ≤ 12) (k : Nat) : 0 ≤ cum n a x k := cum_mono (j := 0) ha ha5 hn (Nat.zero_le k)

theorem cum_le {n a x : Nat} (ha : 2 ≤ a) (ha5 : a ≤ 5) (hn : n ≤ 12) (k : Nat) : cum n a x k ≤ k * 1220703125 := by
  induction k with
  | zero => simp [cum]
  | succ k ih => have := (wN_bound (x := x) (y := k) ha ha5 hn).2; simp only [cum]; omega

/-- The lot draws y. -/
def At (n a x : Nat) (lot : Int) (y : Nat) : Prop := cum n a x y ≤ lot ∧ lot < cum n a x (y + 1) ∧ y ≤ n

theorem At.uniq {n a x : Nat} (ha : 2 ≤ a) (ha5 : a ≤ 5) (hn : n ≤ 12) {lot : Int} {y z : Nat} (h : At n a x lot y) (k : At n a x lot z) : y = z := by
  rcases Nat.lt_trichotomy y z with h1 | h1 | h1
  · have := cum_mono (x := x) ha ha5 hn (show y + 1 ≤ z by omega); have := h.2.1; have := k.1; omega
  · exact h1
  · have := cum_mono (x := x) ha ha5 hn (show z + 1 ≤ y by omega); have := k.2.1; have := h.1; omega

theorem At.exists {n a x : Nat} (ha : 2 ≤ a) (ha5 : a ≤ 5) (hn : n ≤ 12) {lot : Int} (h0 : 0 ≤ lot) (h1 : lot < cum n a x (n + 1)) : ∃ y, At n a x lot y := by
  suffices h : ∀ k, k ≤ n + 1 → lot < cum n a x k → ∃ y, At n a x lot y from h _ (Nat.le_refl _) h1
  intro k
  induction k with
  | zero => intro _ h; simp only [cum] at h; omega
  | succ k ih =>
    intro hk h
    by_cases hc : lot < cum n a x k
    · exact ih (by omega) hc
    · exact ⟨k, by omega, h, by omega⟩

/-- Seen from the other end. -/
theorem wN_mirror {n a x y : Nat} (hx : x ≤ n) (hy : y ≤ n) : wN n a (n - x) (n - y) = wN n a x y := by
  unfold wN
  have h1 : dist (n - x) (n - y) = dist x y := by unfold dist; split <;> split <;> omega
  have h2 : (n - y = 0 ∨ n - y = n) ↔ (y = 0 ∨ y = n) := by omega
  rw [h1]
  by_cases h : y = 0 ∨ y = n
  · rw [if_pos h, if_pos (h2.2 h)]
  · rw [if_neg h, if_neg (fun e => h (h2.1 e))]

theorem cum_mirror {n a x : Nat} (hx : x ≤ n) (k : Nat) : k ≤ n + 1 → cum n a (n - x) k + cum n a x (n + 1 - k) = cum n a x (n + 1) := by
  induction k with
  | zero => intro _; simp [cum]
  | succ k ih =>
    intro hk
    have h1 := ih (by omega)
    have h2 : n + 1 - k = (n + 1 - (k + 1)) + 1 := by omega
    rw [h2] at h1
    simp only [cum] at h1 ⊢
    have h3 : wN n a x (n + 1 - (k + 1)) = wN n a (n - x) k := by
      have := wN_mirror (a := a) (n := n) (x := n - x) (y := k) (by omega) (by omega)
      rw [show n - (n - x) = x from by omega] at this
      rw [← this, show n - k = n + 1 - (k + 1) from by omega]
    rw [h3] at h1
    omega

theorem At.mirror {n a x : Nat} (hx : x ≤ n) {lot : Int} {y : Nat} (h : At n a x lot y) : At n a (n - x) (cum n a x (n + 1) - 1 - lot) (n - y) := by
  obtain ⟨h1, h2, h3⟩ := h
  have e1 := cum_mirror (a := a) hx (n - y) (by omega)
  have e2 := cum_mirror (a := a) hx (n - y + 1) (by omega)
  rw [show n + 1 - (n - y) = y + 1 from by omega] at e1
  rw [show n + 1 - (n - y + 1) = y from by omega] at e2
  exact ⟨by omega, by omega, by omega⟩

end Go.Proofs.Ytjglikccikeejac
