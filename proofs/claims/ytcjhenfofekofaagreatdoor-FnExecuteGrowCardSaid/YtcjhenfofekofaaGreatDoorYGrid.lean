/-
  Plain mathematics: square tables by their cells; the rooms that the cells give; a step forth and back.
-/
import Derived.Test.YtcjhenfofekofaaGreatDoorYHeads
import Derived.Test.YtcjhenfofekofaaGreatDoorYFlow2
import Derived.Test.YtcjhenfofekofaaGreatDoorYReach
namespace Go.Proofs.YtcjhenfofekofaaGreatDoor
open Go.RowKit
open Go.TextMath (tvB mvB)
open Go.FlowMath (Rooms Legal Half HalfR Edge IsExt ext sg back)

theorem wp_calm {P : Program} {c : Code} {K : Act → World → Prop} {Q : Exit → Act → World → Prop} {a : Act} {w : World} (h : c.wp P (Exit.then K (fun _ _ _ => False)) a w) : c.wp P (Exit.then K Q) a w :=
  Code.wp_mono (fun e a w q => by cases e <;> first | exact q | exact q.elim) h
theorem ite_iff {α : Type} {p q : Prop} [Decidable p] [Decidable q] (h : p ↔ q) {a b b' : α} (hb : b = b') : (if p then a else b) = if q then a else b' := by
  by_cases hp : p
  · rw [if_pos hp, if_pos (h.1 hp)]
  · rw [if_neg hp, if_neg fun hq => hp (h.2 hq), hb]
/-- A square table. -/
def gridF (N : Nat) (f : Nat → Nat → Int) : List (List Int) := (List.range N).map fun u => (List.range N).map fun v => f u v
theorem grid_len (N : Nat) (f : Nat → Nat → Int) : (gridF N f).length = N := by simp [gridF]
theorem grid_getD {N : Nat} (f : Nat → Nat → Int) {u : Nat} (hu : u < N) : (gridF N f).getD u [] = (List.range N).map fun v => f u v := by
  simp [gridF, List.getD_eq_getElem?_getD, hu]
theorem grid_row {N : Nat} (f : Nat → Nat → Int) {u : Nat} (hu : u < N) : ((gridF N f).getD u []).length = N := by rw [grid_getD f hu]; simp
theorem grid_at {N : Nat} (f : Nat → Nat → Int) {u v : Nat} (hu : u < N) (hv : v < N) : cellT (gridF N f) u v = f u v := by
  unfold cellT
  rw [grid_getD f hu]
  simp [List.getD_eq_getElem?_getD, hv]
theorem grid_get {N : Nat} (f : Nat → Nat → Int) {u v : Nat} (hu : u < N) (hv : v < N) : ((gridF N f).getD u [])[v]? = some (f u v) := by
  rw [grid_getD f hu]
  simp [hv]
theorem grid_congr {N : Nat} {f g : Nat → Nat → Int} (h : ∀ u v, u < N → v < N → f u v = g u v) : gridF N f = gridF N g := by
  unfold gridF
  refine List.map_congr_left fun u hu => List.map_congr_left fun v hv => h u v (List.mem_range.1 hu) (List.mem_range.1 hv)
theorem grid_put {N : Nat} (f : Nat → Nat → Int) {a b : Nat} (ha : a < N) (hb : b < N) (x : Int) : putC (gridF N f) a b x = gridF N fun u v => if u = a ∧ v = b then x else f u v := by
  refine grid_ext (by rw [putC_len, grid_len, grid_len]) (fun i hi => ?_) fun i hi j hj => ?_
  · rw [putC_len, grid_len] at hi
    rw [putC_row _ _ _ _ _ (by rw [grid_len]; exact ha), grid_row _ hi, grid_row _ hi]
  · rw [putC_len, grid_len] at hi
    rw [putC_row _ _ _ _ _ (by rw [grid_len]; exact ha), grid_row _ hi] at hj
    rw [grid_at _ hi hj]
    have := putC_at (gridF N f) (a := a) (b := b) i j x 0 (by rw [grid_len]; exact ha) (by rw [grid_row _ ha]; exact hb)
    show ((putC (gridF N f) a b x).getD i []).getD j 0 = _
    rw [this]
    have h2 := grid_at f hi hj
    unfold cellT at h2
    rw [h2]
theorem grid_blank (N : Nat) : blank N N = gridF N fun _ _ => 0 := by
  refine grid_ext (by rw [blank_len, grid_len]) (fun i hi => ?_) fun i hi j hj => ?_
  · rw [blank_len] at hi
    rw [blank_row hi, grid_row _ hi]
  · rw [blank_len] at hi
    rw [blank_row hi] at hj
    rw [grid_at _ hi hj]
    exact blank_cell N N hi
theorem roomR_grid {N : Nat} (f : Nat → Nat → Int) {u v : Nat} (hu : u < N) (hv : v < N) : roomR (gridF N f) u v = f u v := grid_at f hu hv

/-- The rooms of the cells seen so far. -/
def shF (T : List (List Int)) (M : List (List Bool)) (h i j : Nat) (raise : Bool) (pre : List (Nat × Nat)) (u v : Nat) : Int :=
  if u < h ∧ h ≤ v ∧ (u, v - h) ∈ pre ∧ flagM M u (v - h) = true ∧ ¬ (u = i ∧ v - h = j) then (if raise then cellT T u (v - h) else 3168)
  else if h ≤ u ∧ v < h ∧ (v, u - h) ∈ pre ∧ flagM M v (u - h) = true ∧ ¬ (v = i ∧ u - h = j) then (if raise then 3168 else cellT T v (u - h))
  else 0
theorem shF_nil (T : List (List Int)) (M : List (List Bool)) (h i j : Nat) (raise : Bool) (u v : Nat) : shF T M h i j raise [] u v = 0 := by simp [shF]
theorem shF_skip {T : List (List Int)} {M : List (List Bool)} {h i j : Nat} {raise : Bool} {pre : List (Nat × Nat)} {k l : Nat} (hs : flagM M k l = false ∨ (k = i ∧ l = j)) (u v : Nat) : shF T M h i j raise (pre ++ [(k, l)]) u v = shF T M h i j raise pre u v := by
  have key : ∀ a b : Nat, (((a, b) ∈ pre ++ [(k, l)]) ∧ flagM M a b = true ∧ ¬ (a = i ∧ b = j)) ↔ ((a, b) ∈ pre ∧ flagM M a b = true ∧ ¬ (a = i ∧ b = j)) := by
    intro a b
    rw [List.mem_append, List.mem_singleton]
    constructor
    · rintro ⟨h1 | h1, h2, h3⟩
      · exact ⟨h1, h2, h3⟩
      · injection h1 with e1 e2
        subst e1 e2
        rcases hs with hs | hs
        · rw [hs] at h2; cases h2
        · exact absurd hs h3
    · rintro ⟨h1, h2, h3⟩
      exact ⟨.inl h1, h2, h3⟩
  unfold shF
  exact ite_iff (and_congr_right fun _ => and_congr_right fun _ => key u (v - h)) (ite_iff (and_congr_right fun _ => and_congr_right fun _ => key v (u - h)) rfl)
theorem shF_set {T : List (List Int)} {M : List (List Bool)} {h i j : Nat} {raise : Bool} {pre : List (Nat × Nat)} {k l : Nat} (hk : k < h) (hm : flagM M k l = true) (hne : ¬ (k = i ∧ l = j)) (u v : Nat) :
    shF T M h i j raise (pre ++ [(k, l)]) u v = if u = h + l ∧ v = k then (if raise then 3168 else cellT T k l) else if u = k ∧ v = h + l then (if raise then cellT T k l else 3168) else shF T M h i j raise pre u v := by
  by_cases e1 : u = h + l ∧ v = k
  · obtain ⟨rfl, rfl⟩ := e1
    rw [if_pos ⟨rfl, rfl⟩]
    unfold shF
    rw [if_neg (by omega), if_pos ⟨by omega, hk, by simp, by rw [Nat.add_sub_cancel_left]; exact hm, by rw [Nat.add_sub_cancel_left]; exact hne⟩, Nat.add_sub_cancel_left]
  · rw [if_neg e1]
    by_cases e2 : u = k ∧ v = h + l
    · obtain ⟨rfl, rfl⟩ := e2
      rw [if_pos ⟨rfl, rfl⟩]
      unfold shF
      rw [if_pos ⟨hk, by omega, by simp, by rw [Nat.add_sub_cancel_left]; exact hm, by rw [Nat.add_sub_cancel_left]; exact hne⟩, Nat.add_sub_cancel_left]
    · rw [if_neg e2]
      unfold shF
      have h1 : (u < h ∧ h ≤ v ∧ (u, v - h) ∈ pre ++ [(k, l)] ∧ flagM M u (v - h) = true ∧ ¬ (u = i ∧ v - h = j)) ↔ (u < h ∧ h ≤ v ∧ (u, v - h) ∈ pre ∧ flagM M u (v - h) = true ∧ ¬ (u = i ∧ v - h = j)) := by
        rw [List.mem_append, List.mem_singleton]
        constructor
        · rintro ⟨a, b, c | c, d⟩
          · exact ⟨a, b, c, d⟩
          · injection c with c1 c2
            exact absurd ⟨c1, by omega⟩ e2
        · rintro ⟨a, b, c, d⟩
          exact ⟨a, b, .inl c, d⟩
      have h2 : (h ≤ u ∧ v < h ∧ (v, u - h) ∈ pre ++ [(k, l)] ∧ flagM M v (u - h) = true ∧ ¬ (v = i ∧ u - h = j)) ↔ (h ≤ u ∧ v < h ∧ (v, u - h) ∈ pre ∧ flagM M v (u - h) = true ∧ ¬ (v = i ∧ u - h = j)) := by
        rw [List.mem_append, List.mem_singleton]
        constructor
        · rintro ⟨a, b, c | c, d⟩
          · exact ⟨a, b, c, d⟩
          · injection c with c1 c2
            exact absurd ⟨by omega, c1⟩ e1
        · rintro ⟨a, b, c, d⟩
          exact ⟨a, b, .inl c, d⟩
      exact ite_iff h1 (ite_iff h2 rfl)
/-- All cells seen: the rooms at the beginning. -/
theorem shF_rooms {T : List (List Int)} {M : List (List Bool)} (hv : tvB T = true) {i j : Nat} {raise : Bool} :
    Rooms T.length (T.getD 0 []).length i j (flagM M) (cellT T) raise (cellT T) (shF T M T.length i j raise (poss (lensT T))) := by
  refine Rooms.begin (fun k hk l hl hne hm => ?_) (fun k hk l hl hne => ?_) (fun k hk l hl => ?_) (fun k hk l hl => ?_)
  · have hp := (poss_tv hv (x := (k, l))).2 ⟨hk, hl⟩
    constructor
    · unfold shF
      rw [if_pos ⟨hk, by omega, by rw [Nat.add_sub_cancel_left]; exact hp, by rw [Nat.add_sub_cancel_left]; exact hm, by rw [Nat.add_sub_cancel_left]; exact hne⟩, Nat.add_sub_cancel_left]
    · unfold shF
      rw [if_neg (by omega), if_pos ⟨by omega, hk, by rw [Nat.add_sub_cancel_left]; exact hp, by rw [Nat.add_sub_cancel_left]; exact hm, by rw [Nat.add_sub_cancel_left]; exact hne⟩, Nat.add_sub_cancel_left]
  · constructor
    · unfold shF
      rw [if_neg, if_neg (by omega)]
      rintro ⟨_, _, _, h1, h2⟩
      rw [Nat.add_sub_cancel_left] at h1 h2
      rcases hne with h | h
      · exact h2 h
      · rw [h] at h1; cases h1
    · unfold shF
      rw [if_neg (by omega), if_neg]
      rintro ⟨_, _, _, h1, h2⟩
      rw [Nat.add_sub_cancel_left] at h1 h2
      rcases hne with h | h
      · exact h2 h
      · rw [h] at h1; cases h1
  · unfold shF; rw [if_neg (by omega), if_neg (by omega)]
  · unfold shF; rw [if_neg (by omega), if_neg (by omega)]
/-- A step forth and back. -/
def stepF (R : Nat → Nat → Int) (p v : Nat) (d : Int) (a b : Nat) : Int := if a = p ∧ b = v then R p v - d else if a = v ∧ b = p then R v p + d else R a b
theorem tv_bounds {T : List (List Int)} (hv : tvB T = true) : (∀ k, k < T.length → ∀ l, l < (T.getD 0 []).length → 0 ≤ cellT T k l) ∧ (∀ k, k < T.length → ∀ l, l < (T.getD 0 []).length → cellT T k l ≤ 99) := by
  have h5 := (tv_t.1 hv).2.2.2.2
  refine ⟨fun k hk l hl => ?_, fun k hk l hl => ?_⟩
  · exact ((h5 k hk).2 l (by rw [(h5 k hk).1]; exact hl)).1
  · exact ((h5 k hk).2 l (by rw [(h5 k hk).1]; exact hl)).2
/-- The cell's extreme value is not far off. -/
theorem ext_bounds {T : List (List Int)} {M : List (List Bool)} (hv : tvB T = true) {i j : Nat} (hi : i < T.length) (hj : j < (T.getD 0 []).length) (raise : Bool) : -1584 ≤ extM T M i j raise ∧ extM T M i j raise ≤ 396 ∧ sg raise * cellT T i j ≤ sg raise * extM T M i j raise := by
  obtain ⟨hT1, hT4, hC1, hC4, -⟩ := tv_t.1 hv
  obtain ⟨h0, hc⟩ := tv_bounds hv
  have hE := Go.FlowMath.ext_is (m := flagM M) raise hi hj h0 hc
  have hself := hE.2 _ (Legal.self h0)
  obtain ⟨x, hx, he⟩ := hE.1
  have h1 := hx.le_row hi hj
  have h2 := Go.FlowMath.rowS_le (t := cellT T) hc hi
  have h3 := hx.ge_cell hi hj h0 hc
  unfold extM
  rw [he] at h1 h3
  have h4 : ((T.getD 0 []).length : Int) ≤ 4 := by omega
  have h5 : (T.length : Int) ≤ 4 := by omega
  have h6 : (T.length : Int) * 99 ≤ 396 := by omega
  have h7 : ((T.getD 0 []).length : Int) * ((T.length : Int) * 99) ≤ 1584 := by
    refine Int.le_trans (Int.mul_le_mul h4 h6 (by omega) (by omega)) (by omega)
  exact ⟨by omega, by omega, hself⟩
end Go.Proofs.YtcjhenfofekofaaGreatDoor
