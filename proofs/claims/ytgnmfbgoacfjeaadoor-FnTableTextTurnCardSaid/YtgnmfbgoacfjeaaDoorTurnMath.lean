/-
  Plain mathematics of turned tables: a cell changed, all cells written one by one, how long the text is.
-/
import Derived.Test.YtgnmfbgoacfjeaaDoorTextMore
import Derived.Test.YtgnmfbgoacfjeaaDoorBlank
import Derived.Test.YtgnmfbgoacfjeaaDoorTabI
namespace Go.Proofs.YtgnmfbgoacfjeaaDoor
open Go.RowKit
open Go.TextMath (tvB text word sumN sumN_swap sumN_congr text_len)

theorem snoc_ind {α : Type} {P : List α → Prop} (h0 : P []) (hs : ∀ l a, P l → P (l ++ [a])) (l : List α) : P l := by
  have key : ∀ r : List α, P r.reverse := fun r => by
    induction r with
    | nil => exact h0
    | cons a r ih => rw [List.reverse_cons]; exact hs _ _ ih
  have := key l.reverse
  rwa [List.reverse_reverse] at this

def cellT (T : List (List Int)) (i j : Nat) : Int := (T.getD i []).getD j 0
/-- A cell changed. -/
def putC {α : Type} (U : List (List α)) (a b : Nat) (x : α) : List (List α) := U.set a ((U.getD a []).set b x)
theorem putC_len {α : Type} (U : List (List α)) (a b : Nat) (x : α) : (putC U a b x).length = U.length := by simp [putC]
theorem putC_row {α : Type} (U : List (List α)) (a b k : Nat) (x : α) (ha : a < U.length) : ((putC U a b x).getD k []).length = (U.getD k []).length := by
  unfold putC
  rw [getD_set U a k _ _ ha]
  by_cases e : k = a
  · rw [if_pos e, List.length_set, e]
  · rw [if_neg e]
theorem putC_at {α : Type} (U : List (List α)) {a b : Nat} (k l : Nat) (x d : α) (ha : a < U.length) (hb : b < (U.getD a []).length) : ((putC U a b x).getD k []).getD l d = if k = a ∧ l = b then x else (U.getD k []).getD l d := by
  unfold putC
  rw [getD_set U a k _ _ ha]
  by_cases e : k = a
  · rw [if_pos e, getD_set _ b l _ _ hb]
    by_cases e2 : l = b
    · rw [if_pos e2, if_pos ⟨e, e2⟩]
    · rw [if_neg e2, if_neg (fun h => e2 h.2), e]
  · rw [if_neg e, if_neg (fun h => e h.1)]

/-- The turned table when some cells have been written. -/
def turnS (T : List (List Int)) (h w : Nat) (pre : List (Nat × Nat)) : List (List Int) := pre.foldl (fun U x => putC U x.2 x.1 (cellT T x.1 x.2)) (blank w h)
theorem turnS_nil (T : List (List Int)) (h w : Nat) : turnS T h w [] = blank w h := rfl
theorem turnS_snoc (T : List (List Int)) (h w : Nat) (pre : List (Nat × Nat)) (x : Nat × Nat) : turnS T h w (pre ++ [x]) = putC (turnS T h w pre) x.2 x.1 (cellT T x.1 x.2) := by
  unfold turnS
  rw [List.foldl_append]
  rfl
theorem turnS_len (T : List (List Int)) (h w : Nat) (pre : List (Nat × Nat)) : (turnS T h w pre).length = w := by
  induction pre using snoc_ind with
  | h0 => exact blank_len w h
  | hs l a ih => rw [turnS_snoc, putC_len]; exact ih
theorem turnS_row (T : List (List Int)) (h w : Nat) (pre : List (Nat × Nat)) (hp : ∀ x ∈ pre, x.1 < h ∧ x.2 < w) : ∀ k, k < w → ((turnS T h w pre).getD k []).length = h := by
  induction pre using snoc_ind with
  | h0 => exact fun k hk => blank_row hk
  | hs l a ih =>
    intro k hk
    rw [turnS_snoc, putC_row _ _ _ _ _ (by rw [turnS_len]; exact (hp a (by simp)).2)]
    exact ih (fun x hx => hp x (by simp [hx])) k hk
theorem blank_cell (h w : Nat) {k l : Nat} (hk : k < w) : ((blank w h).getD k []).getD l 0 = 0 := by
  have : (blank w h).getD k [] = List.replicate h 0 := by simp [blank, List.getD_eq_getElem?_getD, List.getElem?_replicate, hk]
  rw [this]
  simp only [List.getD_eq_getElem?_getD, List.getElem?_replicate]
  by_cases hl : l < h
  · rw [if_pos hl]; rfl
  · rw [if_neg hl]; rfl
theorem turnS_at (T : List (List Int)) (h w : Nat) (pre : List (Nat × Nat)) (hp : ∀ x ∈ pre, x.1 < h ∧ x.2 < w) {k l : Nat} (hk : k < w) : cellT (turnS T h w pre) k l = if (l, k) ∈ pre then cellT T l k else 0 := by
  induction pre using snoc_ind with
  | h0 => rw [if_neg (by simp)]; exact blank_cell h w hk
  | hs q a ih =>
    have ha := hp a (by simp)
    have hq : ∀ x ∈ q, x.1 < h ∧ x.2 < w := fun x hx => hp x (by simp [hx])
    rw [turnS_snoc]
    unfold cellT at ih ⊢
    rw [putC_at _ k l _ _ (by rw [turnS_len]; exact ha.2) (by rw [turnS_row T h w q hq _ ha.2]; exact ha.1)]
    by_cases e : k = a.2 ∧ l = a.1
    · rw [if_pos e, if_pos (by obtain ⟨rfl, rfl⟩ := e; simp), e.1, e.2]
    · rw [if_neg e, ih hq]
      have : ((l, k) ∈ q ++ [a]) ↔ (l, k) ∈ q := by
        rw [List.mem_append, List.mem_singleton]
        refine ⟨fun h => h.elim id fun h => ?_, .inl⟩
        exact absurd ⟨by rw [← h], by rw [← h]⟩ e
      by_cases hm : (l, k) ∈ q
      · rw [if_pos hm, if_pos (this.2 hm)]
      · rw [if_neg hm, if_neg (fun h => hm (this.1 h))]
end Go.Proofs.YtgnmfbgoacfjeaaDoor
