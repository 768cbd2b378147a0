/-
  Plain mathematics of texts, more: how often a byte occurs, how long a text is, texts in two parts, texts under other masks.
-/
import Derived.Test.YthncpnopplhlkaaDoorTextMath
namespace Go.TextMath
open Go.Lib (join joinTail decDigits lens)

theorem digits_range (u : Nat) : ∀ x ∈ decDigits u, 48 ≤ x.toNat ∧ x.toNat ≤ 57 := by
  induction u using Nat.strongRecOn with
  | _ u ih =>
    intro x hx
    by_cases h : u < 10
    · rw [Lib.decDigits_one h] at hx
      simp only [List.mem_singleton] at hx
      subst hx
      rw [UInt8.toNat_ofNat']
      omega
    · rw [Lib.decDigits, dif_neg h, List.mem_append] at hx
      rcases hx with hx | hx
      · exact ih (u / 10) (by omega) x hx
      · simp only [List.mem_singleton] at hx
        subst hx
        rw [UInt8.toNat_ofNat']
        omega
theorem count_digits {c : UInt8} (hc : c.toNat < 48 ∨ 57 < c.toNat) (u : Nat) : (decDigits u).count c = 0 := by
  rw [List.count_eq_zero]
  intro h
  have := digits_range u c h
  omega
theorem count_cell {c : UInt8} (hc : c.toNat < 48) (n : Int) (b : Bool) : (cellW n b).count c = 0 := by
  cases b
  · exact count_digits (.inl hc) _
  · rw [List.count_eq_zero]
    intro h
    simp only [cellW, if_true, List.mem_singleton] at h
    subst h
    exact absurd hc (by decide)
theorem count_x (n : Int) (b : Bool) : (cellW n b).count 120 = if b then 1 else 0 := by
  cases b
  · exact count_digits (.inr (by decide)) _
  · rfl
theorem count_tail (c : UInt8) (r : List (List UInt8)) : (joinTail [32] r).count c = (if c = 32 then r.length else 0) + (r.map (List.count c)).sum := by
  induction r with
  | nil => simp [joinTail]
  | cons y r ih =>
    have e : joinTail [32] (y :: r) = 32 :: (y ++ joinTail [32] r) := by simp [joinTail]
    rw [e, List.count_cons, List.count_append, ih]
    by_cases h : c = 32
    · subst h
      simp
      omega
    · have : ((32 : UInt8) == c) = false := by simp; exact fun e => h e.symm
      simp [h, this]
theorem count_line (c : UInt8) (ws : List (List UInt8)) (h : ws ≠ []) : (line ws).count c = (if c = 32 then ws.length - 1 else 0) + (ws.map (List.count c)).sum + (if c = 10 then 1 else 0) := by
  cases ws with
  | nil => exact absurd rfl h
  | cons x r =>
    unfold line
    rw [List.count_append, Lib.join_cons, List.count_append, count_tail]
    have : List.count c [10] = if c = 10 then 1 else 0 := by
      rw [List.count_singleton]
      by_cases e : c = 10
      · subst e; rfl
      · have : ((10 : UInt8) == c) = false := by simp; exact fun h => e h.symm
        simp [this, e]
    rw [this]
    simp only [List.map_cons, List.sum_cons, List.length_cons, Nat.add_sub_cancel]
    omega
theorem rowW_ne {r : List Int} {h : List Bool} (hr : 1 ≤ r.length) : rowW r h ≠ [] := fun e => by
  have := rowW_length r h
  rw [e] at this
  simp at this
  omega
theorem sum_zero {α : Type} (l : List α) (f : α → Nat) (h : ∀ x ∈ l, f x = 0) : (l.map f).sum = 0 := by
  induction l with
  | nil => rfl
  | cons a r ih =>
    rw [List.map_cons, List.sum_cons, h a (by simp), ih fun x hx => h x (by simp [hx])]
theorem row_zero {c : UInt8} (hc : c.toNat < 48) (r : List Int) (h : List Bool) : ((rowW r h).map (List.count c)).sum = 0 := by
  apply sum_zero
  intro x hx
  obtain ⟨i, hi, rfl⟩ := List.mem_iff_getElem.1 hx
  simp only [rowW, List.getElem_mapIdx]
  exact count_cell hc _ _

/-- A sum over the first n numbers. -/
def sumN : Nat → (Nat → Nat) → Nat
  | 0, _ => 0
  | n + 1, f => sumN n f + f n
theorem sumN_congr {n : Nat} {f g : Nat → Nat} (h : ∀ i, i < n → f i = g i) : sumN n f = sumN n g := by
  induction n with
  | zero => rfl
  | succ n ih => rw [sumN, sumN, ih fun i hi => h i (by omega), h n (by omega)]
theorem sumN_const (n a : Nat) : sumN n (fun _ => a) = n * a := by
  induction n with
  | zero => simp [sumN]
  | succ n ih => rw [sumN, ih, Nat.succ_mul]
theorem sumN_add (n : Nat) (f g : Nat → Nat) : sumN n (fun i => f i + g i) = sumN n f + sumN n g := by
  induction n with
  | zero => rfl
  | succ n ih => simp only [sumN]; omega
theorem sumN_swap (m n : Nat) (f : Nat → Nat → Nat) : sumN m (fun i => sumN n (fun j => f i j)) = sumN n (fun j => sumN m (fun i => f i j)) := by
  induction m with
  | zero => simp only [sumN]; rw [sumN_const]; simp
  | succ m ih => simp only [sumN]; rw [ih, ← sumN_add]
theorem sum_take {α : Type} (l : List α) (f : α → Nat) (d : α) : ∀ k, k ≤ l.length → ((l.take k).map f).sum = sumN k (fun i => f (l.getD i d)) := by
  intro k
  induction k with
  | zero => intro _; simp [sumN]
  | succ k ih =>
    intro hk
    rw [List.take_succ_eq_append_getElem (by omega), List.map_append, List.sum_append, ih (by omega), sumN]
    congr 1
    simp [List.getD_eq_getElem?_getD, List.getElem?_eq_getElem (show k < l.length by omega)]
theorem sum_all {α : Type} (l : List α) (f : α → Nat) (d : α) : (l.map f).sum = sumN l.length (fun i => f (l.getD i d)) := by
  rw [← sum_take l f d l.length (Nat.le_refl _), List.take_length]

/-- What holds of each line holds of a text. -/
theorem text_sum (f : List UInt8 → Nat) (f0 : f [] = 0) (fa : ∀ a b, f (a ++ b) = f a + f b) (T : List (List Int)) (M : List (List Bool)) :
    f (text T M) = sumN T.length (fun i => f (line (rowW (T.getD i []) (M.getD i [])))) := by
  have key : ∀ k, k ≤ T.length → f (text (T.take k) M) = sumN k (fun i => f (line (rowW (T.getD i []) (M.getD i [])))) := by
    intro k
    induction k with
    | zero => intro _; simp [text, sumN, f0]
    | succ k ih =>
      intro hk
      rw [List.take_succ_eq_append_getElem (show k < T.length by omega), text_snoc, fa, ih (by omega), sumN]
      congr 1
      rw [show (T.take k).length = k by rw [List.length_take]; omega]
      simp [List.getD_eq_getElem?_getD, List.getElem?_eq_getElem (show k < T.length by omega)]
  have := key T.length (Nat.le_refl _)
  rwa [List.take_length] at this
theorem text_lines (T : List (List Int)) (M : List (List Bool)) (h : ∀ i, i < T.length → 1 ≤ (T.getD i []).length) : (text T M).count 10 = T.length := by
  rw [text_sum (List.count 10) (by simp) (by intro a b; exact List.count_append)]
  rw [sumN_congr (g := fun _ => 1), sumN_const, Nat.mul_one]
  intro i hi
  rw [count_line _ _ (rowW_ne (h i hi)), row_zero (by decide)]
  simp
theorem text_spaces (T : List (List Int)) (M : List (List Bool)) (n : Nat) (h : ∀ i, i < T.length → (T.getD i []).length = n + 1) : (text T M).count 32 = T.length * n := by
  rw [text_sum (List.count 32) (by simp) (by intro a b; exact List.count_append)]
  rw [sumN_congr (g := fun _ => n), sumN_const]
  intro i hi
  rw [count_line _ _ (rowW_ne (by rw [h i hi]; omega)), row_zero (by decide), rowW_length, h i hi]
  simp
theorem rowW_at {r : List Int} {h : List Bool} {j : Nat} (hj : j < r.length) : (rowW r h).getD j [] = cellW (r.getD j 0) (h.getD j false) := by
  rw [List.getD_eq_getElem?_getD, rowW, List.getElem?_mapIdx, List.getElem?_eq_getElem hj, List.getD_eq_getElem?_getD (l := r), List.getElem?_eq_getElem hj]
  rfl
/-- How many flags of a mask are set. -/
def flags (M : List (List Bool)) : Nat := sumN M.length (fun i => sumN (M.getD i []).length (fun j => if (M.getD i []).getD j false then 1 else 0))
theorem text_x (T : List (List Int)) (M : List (List Bool)) (h : ∀ i, i < T.length → 1 ≤ (T.getD i []).length) (hm : M.length = T.length) (hr : ∀ i, i < T.length → (M.getD i []).length = (T.getD i []).length) : (text T M).count 120 = flags M := by
  rw [text_sum (List.count 120) (by simp) (by intro a b; exact List.count_append)]
  unfold flags
  rw [hm]
  apply sumN_congr
  intro i hi
  rw [count_line _ _ (rowW_ne (h i hi)), sum_all _ _ [], rowW_length, hr i hi]
  simp only [show ((120 : UInt8) = 32) = False from by simp, show ((120 : UInt8) = 10) = False from by simp, if_false, Nat.zero_add, Nat.add_zero]
  apply sumN_congr
  intro j hj
  rw [rowW_at hj, count_x]
theorem lens_sum (l : List (List UInt8)) : lens l = (l.map List.length).sum := by
  induction l with
  | nil => rfl
  | cons a r ih => simp [lens]
/-- How long a text is. -/
theorem text_len (T : List (List Int)) (h : ∀ i, i < T.length → 1 ≤ (T.getD i []).length) : (text T []).length = sumN T.length (fun i => sumN (T.getD i []).length (fun j => (word ((T.getD i []).getD j 0)).length + 1)) := by
  rw [text_sum List.length (by simp) (by intro a b; exact List.length_append)]
  apply sumN_congr
  intro i hi
  rw [sumN_add, sumN_const, Nat.mul_one]
  have hn := rowW_none (T.getD i [])
  have h1 := h i hi
  rw [List.getD_nil, hn]
  generalize T.getD i [] = r at h1
  have e2 : sumN r.length (fun j => (word (r.getD j 0)).length) = ((r.map word).map List.length).sum := by
    rw [List.map_map, sum_all r _ 0]
    rfl
  rw [e2, ← lens_sum]
  have h2 : (r.map word).length = r.length := List.length_map _
  cases hw : r.map word with
  | nil => rw [hw] at h2; simp at h2; omega
  | cons x q =>
    unfold line
    rw [hw] at h2
    rw [List.length_append, Lib.join_length]
    simp only [List.length_cons, List.length_nil] at h2 ⊢
    omega

theorem getD_app {α : Type} (l : List α) (k i : Nat) (d : α) : (l.drop k).getD i d = l.getD (i + k) d := by
  simp only [List.getD_eq_getElem?_getD, List.getElem?_drop]
  rw [Nat.add_comm]
theorem getD_tak {α : Type} (l : List α) {k i : Nat} (d : α) (h : i < k) : (l.take k).getD i d = l.getD i d := by
  simp only [List.getD_eq_getElem?_getD]
  rw [List.getElem?_take_of_lt h]
/-- A text in two parts. -/
theorem text_parts (T : List (List Int)) (M : List (List Bool)) (k : Nat) (hk : k ≤ T.length) : text (T.take k) (M.take k) ++ text (T.drop k) (M.drop k) = text T M := by
  have e : text T M = text (T.take k ++ T.drop k) M := by rw [List.take_append_drop]
  rw [e]
  unfold text
  rw [List.mapIdx_append, List.flatten_append]
  congr 2
  · apply List.ext_getElem
    · simp
    · intro i h1 h2
      simp only [List.getElem_mapIdx]
      rw [getD_tak]
      simp at h1; omega
  · apply List.ext_getElem
    · simp
    · intro i h1 h2
      simp only [List.getElem_mapIdx]
      have hk2 : (T.take k).length = k := by rw [List.length_take]; omega
      simp only [getD_app, hk2]
theorem text_parts0 (T : List (List Int)) (k : Nat) (hk : k ≤ T.length) : text (T.take k) [] ++ text (T.drop k) [] = text T [] := by
  have := text_parts T [] k hk
  simpa using this
/-- A text hangs on what is shown alone. -/
theorem text_congr (T U : List (List Int)) (M K : List (List Bool)) (hl : T.length = U.length) (hr : ∀ i, i < T.length → (T.getD i []).length = (U.getD i []).length)
    (h : ∀ i, i < T.length → ∀ j, j < (T.getD i []).length → cellW ((T.getD i []).getD j 0) ((M.getD i []).getD j false) = cellW ((U.getD i []).getD j 0) ((K.getD i []).getD j false)) : text T M = text U K := by
  unfold text
  congr 1
  apply List.ext_getElem
  · simp [hl]
  · intro i h1 h2
    simp only [List.length_mapIdx] at h1 h2
    simp only [List.getElem_mapIdx]
    have e1 : T[i] = T.getD i [] := by simp [List.getD_eq_getElem?_getD, List.getElem?_eq_getElem h1]
    have e2 : U[i] = U.getD i [] := by simp [List.getD_eq_getElem?_getD, List.getElem?_eq_getElem h2]
    rw [e1, e2]
    congr 1
    have hri := hr i h1
    have hi := h i h1
    generalize T.getD i [] = r at hri hi
    generalize U.getD i [] = u at hri hi
    unfold rowW
    apply List.ext_getElem
    · simp [hri]
    · intro j g1 g2
      simp only [List.length_mapIdx] at g1 g2
      simp only [List.getElem_mapIdx]
      have := hi j g1
      rw [List.getD_eq_getElem?_getD, List.getElem?_eq_getElem g1, List.getD_eq_getElem?_getD (l := u), List.getElem?_eq_getElem g2] at this
      exact this
end Go.TextMath
