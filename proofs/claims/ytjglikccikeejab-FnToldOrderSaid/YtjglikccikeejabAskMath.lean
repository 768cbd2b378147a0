/-
  Plain mathematics of ranks, sixth part: what single statements say of questions.
-/
import Derived.Test.YtjglikccikeejabRankMath
namespace Go.AskMath

/-- Two columns that stand in one ratio in all rows do so in all that they span. -/
theorem Sp.lin2 {L : List Row} {a b : Nat} {s t : Int} (h : ∀ v ∈ L, s * v a = t * v b) {v : Row} (hv : Sp L v) : s * v a = t * v b := by
  induction hv with
  | zero => simp
  | mem hm => exact h _ hm
  | @comb u v x y _ _ hu hv =>
    simp only [AskMath.comb]
    rw [Int.mul_add, Int.mul_add, Int.mul_left_comm s x, Int.mul_left_comm s y, Int.mul_left_comm t x, Int.mul_left_comm t y, hu, hv]
  | @div v d hd _ ih =>
    simp only [AskMath.scal] at ih
    rw [Int.mul_left_comm s d, Int.mul_left_comm t d] at ih
    exact Int.eq_of_mul_eq_mul_left hd ih

theorem two_pos (i : Nat) : (0 : Int) < 2 ^ i := Int.pow_pos (by decide)
theorem two_split {i j : Nat} (h : i ≤ j) : (2 : Int) ^ j = 2 ^ i * 2 ^ (j - i) := by rw [← Int.pow_add]; congr 1; omega
theorem ediv_pow (q : Int) (i k : Nat) : q / 2 ^ i / 2 ^ k = q / 2 ^ (i + k) := by
  rw [Int.pow_add, Int.ediv_ediv_of_nonneg (Int.le_of_lt (two_pos i))]

theorem bit_add_unit {q : Int} {i : Nat} (hb : q / 2 ^ i % 2 = 0) (j : Nat) : (q + 2 ^ i) / 2 ^ j % 2 = q / 2 ^ j % 2 + if j = i then 1 else 0 := by
  have hi := two_pos i
  rcases Nat.lt_trichotomy j i with h | h | h
  · rw [if_neg (by omega), two_split (Nat.le_of_lt h), Int.add_mul_ediv_left _ _ (Int.ne_of_gt (two_pos j))]
    obtain ⟨k, hk⟩ : ∃ k, i - j = k + 1 := ⟨i - j - 1, by omega⟩
    rw [hk, Int.pow_succ]; omega
  · subst h
    rw [if_pos rfl]
    have := Int.add_mul_ediv_left q 1 (Int.ne_of_gt hi)
    rw [Int.mul_one] at this
    rw [this]; omega
  · rw [if_neg (by omega)]
    obtain ⟨k, rfl⟩ : ∃ k, j = i + (k + 1) := ⟨j - i - 1, by omega⟩
    rw [← ediv_pow q i (k + 1), ← ediv_pow (q + 2 ^ i) i (k + 1)]
    have := Int.add_mul_ediv_left q 1 (Int.ne_of_gt hi)
    rw [Int.mul_one] at this
    rw [this]
    have h1 : ∀ x : Int, x / 2 ^ (k + 1) = x / 2 / 2 ^ k := fun x => by
      rw [Nat.add_comm k 1, ← ediv_pow]; rfl
    rw [h1, h1]
    have : (q / 2 ^ i + 1) / 2 = q / 2 ^ i / 2 := by omega
    rw [this]; omega

theorem bits_add_unit {n i : Nat} {q : Int} (hi : i < n) (hb : q / 2 ^ i % 2 = 0) : bits n (q + unit i) = comb 1 (bits n q) 1 (bits n (unit i)) := by
  funext j
  simp only [comb, bits_unit hi, Int.one_mul]
  unfold bits unit
  by_cases h : j < n
  · rw [if_pos h, if_pos h]; exact bit_add_unit hb j
  · rw [if_neg h, if_neg h, if_neg (by omega)]; rfl

theorem bit_of_add {q : Int} {i : Nat} (hb : q / 2 ^ i % 2 = 1) : (q - 2 ^ i) / 2 ^ i % 2 = 0 := by
  have := Int.add_mul_ediv_left q (-1) (Int.ne_of_gt (two_pos i))
  rw [show q + 2 ^ i * -1 = q - 2 ^ i from by omega] at this
  rw [this]; omega

theorem bit_full {n j : Nat} (h : j < n) : ((2 : Int) ^ n - 1) / 2 ^ j % 2 = 1 := by
  obtain ⟨k, hk⟩ : ∃ k, n - j = k + 1 := ⟨n - j - 1, by omega⟩
  have := Int.add_mul_ediv_left (-1) (2 ^ (n - j)) (Int.ne_of_gt (two_pos j))
  rw [← two_split (Nat.le_of_lt h), show (-1 : Int) + 2 ^ n = 2 ^ n - 1 from by omega] at this
  have e : (-1 : Int) / 2 ^ j = -1 := by
    have := two_pos j
    exact Int.ediv_eq_neg_one_of_neg_of_le (by omega) (by omega)
  rw [this, e, hk, Int.pow_succ]; omega

theorem low_bit {q : Int} {i n : Nat} (hq : q < 2 ^ n) (hi : i < n) (hb : q / 2 ^ i % 2 = 0) : q + 2 ^ i < 2 ^ n := by
  have hp := two_pos i
  obtain ⟨k, hk⟩ : ∃ k, n - i = k + 1 := ⟨n - i - 1, by omega⟩
  have hs := two_split (i := i) (j := n) (Nat.le_of_lt hi)
  rw [hk, Int.pow_succ] at hs
  have h1 : q / 2 ^ i < 2 ^ k * 2 := Int.ediv_lt_of_lt_mul hp (by rw [hs] at hq; rw [Int.mul_comm]; exact hq)
  have h2 : q / 2 ^ i + 1 + 1 ≤ 2 ^ k * 2 := by omega
  have h3 := Int.mul_le_mul_of_nonneg_left h2 (Int.le_of_lt hp)
  have h4 := Int.mul_ediv_add_emod q (2 ^ i)
  have h5 := Int.emod_lt_of_pos q hp
  rw [Int.mul_add, Int.mul_add] at h3
  omega

theorem bit_inj : ∀ (n : Nat) {a b : Int}, 0 ≤ a → a < 2 ^ n → 0 ≤ b → b < 2 ^ n → (∀ j, j < n → a / 2 ^ j % 2 = b / 2 ^ j % 2) → a = b := by
  intro n
  induction n with
  | zero => intro a b h1 h2 h3 h4 _; simp at h2 h4; omega
  | succ n ih =>
    intro a b h1 h2 h3 h4 h
    rw [Int.pow_succ] at h2 h4
    have h0 := h 0 (by omega)
    simp at h0
    have := ih (a := a / 2) (b := b / 2) (by omega) (by omega) (by omega) (by omega) (fun j hj => by
      have := h (j + 1) (by omega)
      rw [Nat.add_comm j 1, ← ediv_pow, ← ediv_pow] at this
      simpa using this)
    omega

theorem bits_inj {n : Nat} {a b : Int} (h1 : 0 ≤ a) (h2 : a < 2 ^ n) (h3 : 0 ≤ b) (h4 : b < 2 ^ n) (h : bits n a = bits n b) : a = b :=
  bit_inj n h1 h2 h3 h4 fun j hj => by have := congrFun h j; unfold bits at this; rwa [if_pos hj, if_pos hj] at this

theorem bits_ne {n : Nat} {a : Int} (h1 : 1 ≤ a) (h2 : a < 2 ^ n) : ∃ j, bits n a j = 1 := by
  refine Classical.byContradiction fun hn => ?_
  have : bits n a = bits n 0 := by
    funext j
    rcases bits_bin n a j with h | h
    · rw [h]; unfold bits; split <;> simp
    · exact absurd ⟨j, h⟩ hn
  have := bits_inj (by omega) h2 (by omega) (two_pos n) this
  omega

theorem inn_nil {n : Nat} {a : Int} (h1 : 1 ≤ a) (h2 : a < 2 ^ n) : ¬ inn n [] a := by
  intro h
  obtain ⟨j, hj⟩ := bits_ne h1 h2
  have := Sp.col (c := j) (fun v hv => by simp [rows] at hv) h
  omega

theorem rnk_one {n : Nat} {a : Int} (h1 : 1 ≤ a) (h2 : a < 2 ^ n) : rnk n [a] = 1 := by
  have := rnk_app_out (inn_nil h1 h2)
  rw [rnk_nil] at this
  simpa using this

theorem inn_one {n : Nat} {a b : Int} (h1 : 1 ≤ a) (h2 : a < 2 ^ n) (h3 : 1 ≤ b) (h4 : b < 2 ^ n) : inn n [a] b ↔ a = b := by
  constructor
  · intro h
    obtain ⟨j, hj⟩ := bits_ne h3 h4
    have key : ∀ i, bits n a j * bits n b i = bits n a i * bits n b j := fun i => Sp.lin2 (a := i) (b := j) (s := bits n a j) (t := bits n a i) (fun v hv => by
      simp only [rows, List.map_cons, List.map_nil, List.mem_singleton] at hv
      subst hv; exact Int.mul_comm _ _) h
    refine bits_inj (by omega) h2 (by omega) h4 ?_
    rcases bits_bin n a j with h0 | h0
    · obtain ⟨i, hi⟩ := bits_ne h1 h2
      have := key i
      rw [h0, hi, hj] at this
      simp at this
    · funext i
      have := key i
      rw [h0, hj] at this
      omega
  · rintro rfl; exact inn_mem (by simp)

theorem rnk_two {n : Nat} {a b : Int} (h1 : 1 ≤ a) (h2 : a < 2 ^ n) (h3 : 1 ≤ b) (h4 : b < 2 ^ n) : rnk n [a, b] = 1 ↔ a = b := by
  rw [← inn_one h1 h2 h3 h4]
  have e : [a, b] = [a] ++ [b] := rfl
  rw [e]
  constructor
  · intro h
    refine Classical.byContradiction fun hn => ?_
    have := rnk_app_out hn
    rw [rnk_one h1 h2] at this
    omega
  · intro h; rw [rnk_app_in h, rnk_one h1 h2]

theorem tel_full {n i : Nat} (hn : 2 ≤ n) (hi : i < n) : tel n [2 ^ n - 1] i = false := by
  refine Bool.eq_false_iff.2 fun h => ?_
  have h := tel_iff.1 h
  obtain ⟨j, hj, hne⟩ : ∃ j, j < n ∧ j ≠ i := by
    by_cases e : i = 0
    · exact ⟨1, by omega, by omega⟩
    · exact ⟨0, by omega, by omega⟩
  have := Sp.lin2 (a := i) (b := j) (s := 1) (t := 1) (fun v hv => by
    simp only [rows, List.map_cons, List.map_nil, List.mem_singleton] at hv
    subst hv
    unfold bits
    rw [if_pos hi, if_pos hj, bit_full hi, bit_full hj]) h
  rw [bits_unit hi, bits_unit hi, if_pos rfl, if_neg hne] at this
  omega

theorem tld_full {n : Nat} (hn : 2 ≤ n) : tld n [2 ^ n - 1] n = 0 := tld_zero.2 fun _ hi => tel_full hn hi

theorem tel_unit {n i : Nat} {xs : List Int} (h : unit i ∈ xs) : tel n xs i = true := tel_iff.2 (inn_mem h)

theorem tld_unit {n i : Nat} {xs : List Int} (hi : i < n) (h : unit i ∈ xs) : tld n xs n ≠ 0 := fun h0 => by
  have := tld_zero.1 h0 i hi
  rw [tel_unit h] at this
  cases this

/-- Two questions that differ by one person tell it. -/
theorem tel_diff {n i : Nat} {xs : List Int} {q : Int} (hi : i < n) (hb : q / 2 ^ i % 2 = 0) (h1 : q ∈ xs) (h2 : q + unit i ∈ xs) : tel n xs i = true := by
  refine tel_iff.2 ?_
  have a : Sp (rows n xs) (bits n q) := inn_mem h1
  have b : Sp (rows n xs) (bits n (q + unit i)) := inn_mem h2
  have c := Sp.comb 1 (-1) b a
  have e : comb 1 (bits n (q + unit i)) (-1) (bits n q) = bits n (unit i) := by
    rw [bits_add_unit hi hb]; funext j; simp only [comb]; omega
  rw [e] at c
  exact c

theorem bit_full_less {n i : Nat} (hi : i < n) : ((2 : Int) ^ n - 1 - 2 ^ i) / 2 ^ i % 2 = 0 := bit_of_add (bit_full hi)

theorem tel_two {n i : Nat} {xs : List Int} (hi : i < n) (h1 : (2 : Int) ^ n - 1 ∈ xs) (h2 : (2 : Int) ^ n - 1 - 2 ^ i ∈ xs) : tel n xs i = true :=
  tel_diff hi (bit_full_less hi) h2 (by unfold unit; rw [show (2 : Int) ^ n - 1 - 2 ^ i + 2 ^ i = 2 ^ n - 1 from by omega]; exact h1)

theorem rnk_tel {n i : Nat} {xs : List Int} (h : tel n xs i = true) : rnk n (xs ++ [unit i]) = rnk n xs := by
  unfold tel at h; simpa using h

theorem rnk_units_in {n : Nat} {xs : List Int} (h : ∀ i, i < n → unit i ∈ xs) : rnk n xs = n := by
  have h1 := rnk_sub (n := n) (a := units n) (b := xs) (fun q hq => by
    obtain ⟨i, hi, rfl⟩ := List.mem_map.1 hq
    exact inn_mem (h i (List.mem_range.1 hi)))
  have h2 := rnk_units (n := n) (Nat.le_refl n)
  have h3 := rnk_le n xs
  unfold units at h1
  omega

theorem tld_sub {n : Nat} {a b : List Int} (h : ∀ q ∈ a, q ∈ b) (k : Nat) : tld n a k ≤ tld n b k := tld_mono (fun i => tel_mono h i) k

/-- Safe questions leave a rank below the number of persons. -/
theorem rnk_safe {n : Nat} {xs : List Int} (hn : 1 ≤ n) (h : tld n xs n = 0) : rnk n xs < n := by
  have h1 := rnk_le n xs
  by_cases e : rnk n xs = n
  · have := (tld_all n xs).2 e; omega
  · omega

end Go.AskMath
