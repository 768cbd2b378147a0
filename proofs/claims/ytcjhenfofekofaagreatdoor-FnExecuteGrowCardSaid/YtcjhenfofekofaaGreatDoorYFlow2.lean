/-
  Plain mathematics of hidden cells: searching places, walking back, the rooms of steps.
-/
import Derived.Test.YtcjhenfofekofaaGreatDoorJ2
namespace Go.FlowMath

theorem nodup_le : ∀ (N : Nat) (D : List Nat), D.Nodup → (∀ v ∈ D, v < N) → D.length ≤ N
  | 0, D, _, h => by
    cases D with
    | nil => exact Nat.le_refl _
    | cons a r => exact absurd (h a (by simp)) (Nat.not_lt_zero _)
  | N + 1, D, hd, h => by
    by_cases hm : N ∈ D
    · have h1 := nodup_le N (D.erase N) (hd.erase N) (fun v hv => by
        have h2 := (hd.mem_erase_iff).1 hv
        have := h v h2.2
        have := h2.1
        omega)
      rw [List.length_erase_of_mem hm] at h1
      omega
    · have := nodup_le N D hd (fun v hv => by
        have := h v hv
        have : v ≠ N := fun e => hm (e ▸ hv)
        omega)
      omega

theorem getD_setI {l : List Int} {i k : Nat} {x d : Int} (hi : i < l.length) : (l.set i x).getD k d = if k = i then x else l.getD k d := by
  simp only [List.getD_eq_getElem?_getD, List.getElem?_set]
  by_cases e : i = k
  · subst e; simp [hi]
  · have e2 : ¬ k = i := fun h => e h.symm
    simp [e, e2]

/-- A search under way: the places in the order in which they were reached, how many of them are done, from where each was reached. -/
structure Bfs (E : Nat → Nat → Prop) (N s : Nat) (D : List Nat) (k : Nat) (P : List Int) : Prop where
  len : P.length = N
  lt : ∀ v ∈ D, v < N
  nd : D.Nodup
  mem : s ∈ D
  start : P.getD s 0 = s
  off : ∀ v, v < N → v ∉ D → P.getD v 0 = -1
  on : ∀ v ∈ D, v ≠ s → ∃ p : Nat, P.getD v 0 = p ∧ p ∈ D ∧ D.idxOf p < D.idxOf v ∧ E p v
  closed : ∀ i, i < k → ∀ v, v < N → E (D.getD i 0) v → v ∈ D

theorem Bfs.first {E : Nat → Nat → Prop} {N s : Nat} (hs : s < N) : Bfs E N s [s] 0 ((List.replicate N (-1)).set s s) where
  len := by simp
  lt := fun v hv => by simp at hv; omega
  nd := by simp
  mem := by simp
  start := by rw [getD_setI (by simpa using hs), if_pos rfl]
  off := fun v hv hn => by
    simp at hn
    rw [getD_setI (by simpa using hs), if_neg hn]
    simp [List.getD_eq_getElem?_getD, hv]
  on := fun v hv hne => by simp at hv; exact absurd hv hne
  closed := fun i hi => absurd hi (Nat.not_lt_zero _)

theorem Bfs.neg {E : Nat → Nat → Prop} {N s : Nat} {D : List Nat} {k : Nat} {P : List Int} (h : Bfs E N s D k P) {v : Nat} (hv : v < N) : P.getD v 0 < 0 ↔ v ∉ D := by
  constructor
  · intro hn hm
    by_cases e : v = s
    · subst e; rw [h.start] at hn; omega
    · obtain ⟨p, hp, _⟩ := h.on v hm e
      omega
  · intro hm
    rw [h.off v hv hm]
    omega
theorem Bfs.le {E : Nat → Nat → Prop} {N s : Nat} {D : List Nat} {k : Nat} {P : List Int} (h : Bfs E N s D k P) : D.length ≤ N := nodup_le N D h.nd h.lt

theorem Bfs.add {E : Nat → Nat → Prop} {N s : Nat} {D : List Nat} {k : Nat} {P : List Int} (h : Bfs E N s D k P) (hk : k < D.length) {v : Nat} (hv : v < N) (hn : v ∉ D) (he : E (D.getD k 0) v) :
    Bfs E N s (D ++ [v]) k (P.set v (D.getD k 0 : Nat)) := by
  have hum : D.getD k 0 ∈ D := by rw [List.getD_eq_getElem?_getD, List.getElem?_eq_getElem hk, Option.getD_some]; exact List.getElem_mem hk
  have hvs : v ≠ s := fun e => hn (e ▸ h.mem)
  have hidx : ∀ p ∈ D, (D ++ [v]).idxOf p = D.idxOf p := fun p hp => by rw [List.idxOf_append, if_pos hp]
  have hlt : ∀ p ∈ D, D.idxOf p < D.length := fun p hp => List.idxOf_lt_length_of_mem hp
  refine ⟨by rw [List.length_set]; exact h.len, ?_, ?_, ?_, ?_, ?_, ?_, ?_⟩
  · intro a ha
    rcases List.mem_append.1 ha with ha | ha
    · exact h.lt a ha
    · simp at ha; omega
  · rw [List.nodup_append]
    exact ⟨h.nd, by simp, fun a ha b hb e => by simp at hb; subst hb; exact hn (e ▸ ha)⟩
  · exact List.mem_append_left _ h.mem
  · rw [getD_setI (by rw [h.len]; exact hv), if_neg (fun e => hvs e.symm), h.start]
  · intro a ha hna
    rw [List.mem_append, not_or] at hna
    rw [getD_setI (by rw [h.len]; exact hv), if_neg (by simpa using hna.2)]
    exact h.off a ha hna.1
  · intro a ha hne
    by_cases e : a = v
    · subst e
      refine ⟨D.getD k 0, by rw [getD_setI (by rw [h.len]; exact hv), if_pos rfl], List.mem_append_left _ hum, ?_, he⟩
      rw [hidx _ hum, List.idxOf_append, if_neg hn]
      have := hlt _ hum
      omega
    · have haD : a ∈ D := by
        rcases List.mem_append.1 ha with ha | ha
        · exact ha
        · simp at ha; exact absurd ha e
      obtain ⟨p, hp, hpm, hpi, hpe⟩ := h.on a haD hne
      exact ⟨p, by rw [getD_setI (by rw [h.len]; exact hv), if_neg e]; exact hp, List.mem_append_left _ hpm, by rw [hidx _ hpm, hidx _ haD]; exact hpi, hpe⟩
  · intro i hi a ha hea
    have : (D ++ [v]).getD i 0 = D.getD i 0 := by
      simp only [List.getD_eq_getElem?_getD]
      rw [List.getElem?_append_left (by omega)]
    rw [this] at hea
    exact List.mem_append_left _ (h.closed i hi a ha hea)
theorem Bfs.next {E : Nat → Nat → Prop} {N s : Nat} {D : List Nat} {k : Nat} {P : List Int} (h : Bfs E N s D k P) (hc : ∀ v, v < N → E (D.getD k 0) v → v ∈ D) : Bfs E N s D (k + 1) P :=
  ⟨h.len, h.lt, h.nd, h.mem, h.start, h.off, h.on, fun i hi v hv he => by
    by_cases e : i = k
    · subst e; exact hc v hv he
    · exact h.closed i (by omega) v hv he⟩
theorem Bfs.reach {E : Nat → Nat → Prop} {N s : Nat} {D : List Nat} {k : Nat} {P : List Int} (h : Bfs E N s D k P) (hk : D.length ≤ k) : Reach E N s D.idxOf P where
  len := h.len
  start := h.start
  none_ := fun v hv hn => h.off v hv ((h.neg hv).1 hn)
  from_ := fun v hv h0 hne => by
    have hm : v ∈ D := by
      by_cases hm : v ∈ D
      · exact hm
      · have := h.off v hv hm; omega
    obtain ⟨p, hp, hpm, hpi, hpe⟩ := h.on v hm hne
    refine ⟨p, hp, h.lt p hpm, ?_, hpi, hpe⟩
    by_cases hn : P.getD p 0 < 0
    · exact absurd hpm ((h.neg (h.lt p hpm)).1 hn)
    · omega
  closed := fun u v hu hv h0 he => by
    have hm : u ∈ D := by
      by_cases hm : u ∈ D
      · exact hm
      · have := h.off u hu hm; omega
    have hv' : v ∈ D := by
      refine h.closed (D.idxOf u) (by have := List.idxOf_lt_length_of_mem hm; omega) v hv ?_
      have : D.getD (D.idxOf u) 0 = u := by
        rw [List.getD_eq_getElem?_getD, List.getElem?_eq_getElem (List.idxOf_lt_length_of_mem hm), Option.getD_some]
        exact List.getElem_idxOf _
      rw [this]
      exact he
    by_cases hn : P.getD v 0 < 0
    · exact absurd hv' ((h.neg hv).1 hn)
    · omega
theorem Reach.congr {E E' : Nat → Nat → Prop} {N s : Nat} {rank : Nat → Nat} {P : List Int} (h : Reach E N s rank P) (he : ∀ u v, u < N → v < N → (E u v ↔ E' u v)) : Reach E' N s rank P where
  len := h.len
  start := h.start
  none_ := h.none_
  from_ := fun v hv h0 hne => by
    obtain ⟨p, h1, h2, h3, h4, h5⟩ := h.from_ v hv h0 hne
    exact ⟨p, h1, h2, h3, h4, (he p v h2 hv).1 h5⟩
  closed := fun u v hu hv h0 h1 => h.closed u v hu hv h0 ((he u v hu hv).2 h1)

/-- Walking back n times. -/
def back (P : List Int) (v : Nat) : Nat → Nat
  | 0 => v
  | n + 1 => (P.getD (back P v n) 0).toNat
theorem back_stays {P : List Int} {v s : Nat} (hs : P.getD s 0 = s) {n : Nat} (h : back P v n = s) : ∀ k, back P v (n + k) = s
  | 0 => h
  | k + 1 => by
    show (P.getD (back P v (n + k)) 0).toNat = s
    rw [back_stays hs h k, hs]
    simp
/-- Each place on the way back but the first one is reached from the next. -/
theorem back_step {E : Nat → Nat → Prop} {N s : Nat} {rank : Nat → Nat} {P : List Int} (h : Reach E N s rank P) {v : Nat} (hv : v < N) (h0 : 0 ≤ P.getD v 0) : ∀ n, back P v n < N ∧ 0 ≤ P.getD (back P v n) 0 ∧
    (back P v n ≠ s → P.getD (back P v n) 0 = (back P v (n + 1) : Nat) ∧ rank (back P v (n + 1)) < rank (back P v n) ∧ E (back P v (n + 1)) (back P v n)) := by
  intro n
  have key : back P v n < N ∧ 0 ≤ P.getD (back P v n) 0 := by
    induction n with
    | zero => exact ⟨hv, h0⟩
    | succ n ih =>
      by_cases e : back P v n = s
      · have : back P v (n + 1) = s := back_stays h.start e 1
        rw [this, h.start]
        rw [e] at ih
        exact ⟨ih.1, by omega⟩
      · obtain ⟨p, h1, h2, h3, h4, h5⟩ := h.from_ _ ih.1 ih.2 e
        have : back P v (n + 1) = p := by show (P.getD (back P v n) 0).toNat = p; rw [h1]; simp
        rw [this]
        exact ⟨h2, h3⟩
  refine ⟨key.1, key.2, fun e => ?_⟩
  obtain ⟨p, h1, h2, h3, h4, h5⟩ := h.from_ _ key.1 key.2 e
  have : back P v (n + 1) = p := by show (P.getD (back P v n) 0).toNat = p; rw [h1]; simp
  rw [this]
  exact ⟨h1, h4, h5⟩

section
variable (h w i j : Nat) (m : Nat → Nat → Bool) (t : Nat → Nat → Int)

/-- The rooms of all steps: R u v is by how much the step from u to v can go. -/
structure Rooms (raise : Bool) (x : Nat → Nat → Int) (R : Nat → Nat → Int) : Prop where
  down : ∀ k, k < h → ∀ l, l < w → ¬ (k = i ∧ l = j) → m k l = true → R k (h + l) = (if raise then x k l else 3168 + t k l - x k l) ∧ R (h + l) k = (if raise then 3168 + t k l - x k l else x k l)
  none_ : ∀ k, k < h → ∀ l, l < w → (k = i ∧ l = j) ∨ m k l = false → R k (h + l) = 0 ∧ R (h + l) k = 0
  rows : ∀ k, k < h → ∀ l, l < h → R k l = 0
  cols : ∀ k, k < w → ∀ l, l < w → R (h + k) (h + l) = 0

variable {h w i j m t}
theorem Legal.small {x : Nat → Nat → Int} (hx : Legal h w i j m t x) (hh : h ≤ 4) (hw : w ≤ 4) (hc : ∀ k, k < h → ∀ l, l < w → t k l ≤ 99) {k l : Nat} (hk : k < h) (hl : l < w) (hne : ¬ (k = i ∧ l = j)) : x k l ≤ 396 := by
  have h1 := rowS_le (t := t) hc hk
  have h2 := colS_le (t := t) hc hl
  rcases hx.le_other hk hl hne with h3 | h3 <;> omega
theorem Rooms.edge {raise : Bool} {x R : Nat → Nat → Int} (hR : Rooms h w i j m t raise x R) (hx : Legal h w i j m t x) (hh : h ≤ 4) (hw : w ≤ 4) (h0 : ∀ k, k < h → ∀ l, l < w → 0 ≤ t k l) (hc : ∀ k, k < h → ∀ l, l < w → t k l ≤ 99)
    {u v : Nat} (hu : u < h + w) (hv : v < h + w) : 0 < R u v ↔ Edge h w i j m raise x u v := by
  have key : ∀ k, k < h → ∀ l, l < w → (0 < R k (h + l) ↔ (¬ (k = i ∧ l = j) ∧ m k l = true ∧ (raise = true → 0 < x k l))) ∧ (0 < R (h + l) k ↔ (¬ (k = i ∧ l = j) ∧ m k l = true ∧ (raise = false → 0 < x k l))) := by
    intro k hk l hl
    by_cases e : k = i ∧ l = j
    · have := hR.none_ k hk l hl (.inl e)
      rw [this.1, this.2]
      simp [e]
    · cases hm : m k l with
      | false =>
        have := hR.none_ k hk l hl (.inr hm)
        rw [this.1, this.2]
        simp
      | true =>
        have h1 := hR.down k hk l hl e hm
        have h2 := hx.small hh hw hc hk hl e
        have h3 := h0 k hk l hl
        rw [h1.1, h1.2]
        cases raise
        · simp [e]
          omega
        · simp [e]
          omega
  by_cases hu1 : u < h <;> by_cases hv1 : v < h
  · rw [hR.rows u hu1 v hv1]
    constructor
    · intro h; omega
    · rintro (h | h) <;> omega
  · obtain ⟨l, rfl⟩ : ∃ l, v = h + l := ⟨v - h, by omega⟩
    rw [(key u hu1 l (by omega)).1]
    unfold Edge
    rw [Nat.add_sub_cancel_left]
    constructor
    · rintro ⟨a, b, c⟩
      exact .inl ⟨hu1, by omega, by omega, fun e => a ⟨e.1, by omega⟩, b, c⟩
    · rintro (⟨_, _, _, a, b, c⟩ | h)
      · exact ⟨fun e => a ⟨e.1, by omega⟩, b, c⟩
      · omega
  · obtain ⟨l, rfl⟩ : ∃ l, u = h + l := ⟨u - h, by omega⟩
    rw [(key v hv1 l (by omega)).2]
    unfold Edge
    rw [Nat.add_sub_cancel_left]
    constructor
    · rintro ⟨a, b, c⟩
      exact .inr ⟨by omega, by omega, hv1, fun e => a ⟨e.1, by omega⟩, b, c⟩
    · rintro (h | ⟨_, _, _, a, b, c⟩)
      · omega
      · exact ⟨fun e => a ⟨e.1, by omega⟩, b, c⟩
  · obtain ⟨k, rfl⟩ : ∃ l, u = h + l := ⟨u - h, by omega⟩
    obtain ⟨l, rfl⟩ : ∃ l, v = h + l := ⟨v - h, by omega⟩
    rw [hR.cols k (by omega) l (by omega)]
    constructor
    · intro h; omega
    · rintro (h | h) <;> omega

/-- What a step leaves of the rooms. -/
theorem Rooms.step {raise : Bool} {x R R' : Nat → Nat → Int} {p v : Nat} {d : Int} (hR : Rooms h w i j m t raise x R)
    (hp : p < h + w) (hv : v < h + w) (hpv : (p < h ∧ h ≤ v ∧ ¬ (p = i ∧ v = h + j) ∧ m p (v - h) = true) ∨ (h ≤ p ∧ v < h ∧ ¬ (v = i ∧ p = h + j) ∧ m v (p - h) = true))
    (hR' : ∀ a b, R' a b = if a = p ∧ b = v then R p v - d else if a = v ∧ b = p then R v p + d else R a b) :
    Rooms h w i j m t raise (if p < h then upd x p (v - h) (-(sg raise * d)) else upd x v (p - h) (sg raise * d)) R' := by
  rcases hpv with ⟨h1, h2, h3, h4⟩ | ⟨h1, h2, h3, h4⟩
  · obtain ⟨l0, rfl⟩ : ∃ l, v = h + l := ⟨v - h, by omega⟩
    rw [Nat.add_sub_cancel_left] at h4 ⊢
    rw [if_pos h1]
    refine ⟨fun k hk l hl hne hm => ?_, fun k hk l hl hne => ?_, fun k hk l hl => ?_, fun k hk l hl => ?_⟩
    · have := hR.down k hk l hl hne hm
      rw [hR', hR', if_neg (show ¬ (h + l = p ∧ k = h + l0) by omega)]
      by_cases e : k = p ∧ l = l0
      · obtain ⟨rfl, rfl⟩ := e
        rw [if_pos (show k = k ∧ h + l = h + l from ⟨rfl, rfl⟩), if_pos (show h + l = h + l ∧ k = k from ⟨rfl, rfl⟩), upd_same, this.1, this.2]
        cases raise <;> simp [sg] <;> omega
      · rw [upd_other e, if_neg (show ¬ (k = p ∧ h + l = h + l0) by omega), if_neg (show ¬ (k = h + l0 ∧ h + l = p) by omega), if_neg (show ¬ (h + l = h + l0 ∧ k = p) by omega)]
        exact this
    · have := hR.none_ k hk l hl hne
      have hn : ¬ (k = p ∧ l = l0) := by
        rintro ⟨rfl, rfl⟩
        rcases hne with hne | hne
        · exact h3 ⟨hne.1, by omega⟩
        · rw [h4] at hne; cases hne
      rw [hR', hR', if_neg (show ¬ (k = p ∧ h + l = h + l0) by omega), if_neg (show ¬ (k = h + l0 ∧ h + l = p) by omega), if_neg (show ¬ (h + l = p ∧ k = h + l0) by omega), if_neg (show ¬ (h + l = h + l0 ∧ k = p) by omega)]
      exact this
    · rw [hR', if_neg (by omega), if_neg (by omega)]; exact hR.rows k hk l hl
    · rw [hR', if_neg (by omega), if_neg (by omega)]; exact hR.cols k hk l hl
  · obtain ⟨l0, rfl⟩ : ∃ l, p = h + l := ⟨p - h, by omega⟩
    rw [Nat.add_sub_cancel_left] at h4 ⊢
    rw [if_neg (show ¬ h + l0 < h by omega)]
    refine ⟨fun k hk l hl hne hm => ?_, fun k hk l hl hne => ?_, fun k hk l hl => ?_, fun k hk l hl => ?_⟩
    · have := hR.down k hk l hl hne hm
      rw [hR', hR', if_neg (show ¬ (k = h + l0 ∧ h + l = v) by omega)]
      by_cases e : k = v ∧ l = l0
      · obtain ⟨rfl, rfl⟩ := e
        rw [if_pos (show k = k ∧ h + l = h + l from ⟨rfl, rfl⟩), if_pos (show h + l = h + l ∧ k = k from ⟨rfl, rfl⟩), upd_same, this.1, this.2]
        cases raise <;> simp [sg] <;> omega
      · rw [upd_other e, if_neg (show ¬ (k = v ∧ h + l = h + l0) by omega), if_neg (show ¬ (h + l = h + l0 ∧ k = v) by omega), if_neg (show ¬ (h + l = v ∧ k = h + l0) by omega)]
        exact this
    · have := hR.none_ k hk l hl hne
      have hn : ¬ (k = v ∧ l = l0) := by
        rintro ⟨rfl, rfl⟩
        rcases hne with hne | hne
        · exact h3 ⟨hne.1, by omega⟩
        · rw [h4] at hne; cases hne
      rw [hR', hR', if_neg (show ¬ (k = h + l0 ∧ h + l = v) by omega), if_neg (show ¬ (k = v ∧ h + l = h + l0) by omega), if_neg (show ¬ (h + l = h + l0 ∧ k = v) by omega), if_neg (show ¬ (h + l = v ∧ k = h + l0) by omega)]
      exact this
    · rw [hR', if_neg (by omega), if_neg (by omega)]; exact hR.rows k hk l hl
    · rw [hR', if_neg (by omega), if_neg (by omega)]; exact hR.cols k hk l hl

/-- At the beginning. -/
theorem Rooms.begin {raise : Bool} {R : Nat → Nat → Int}
    (hd : ∀ k, k < h → ∀ l, l < w → ¬ (k = i ∧ l = j) → m k l = true → R k (h + l) = (if raise then t k l else 3168) ∧ R (h + l) k = (if raise then 3168 else t k l))
    (hn : ∀ k, k < h → ∀ l, l < w → (k = i ∧ l = j) ∨ m k l = false → R k (h + l) = 0 ∧ R (h + l) k = 0)
    (hr : ∀ k, k < h → ∀ l, l < h → R k l = 0) (hc : ∀ k, k < w → ∀ l, l < w → R (h + k) (h + l) = 0) : Rooms h w i j m t raise t R :=
  ⟨fun k hk l hl hne hm => by
    have := hd k hk l hl hne hm
    rw [this.1, this.2]
    cases raise <;> simp <;> omega, hn, hr, hc⟩

/-- Half-way: the table's changes and the rooms. -/
structure HalfR (raise : Bool) (d : Int) (x0 : Nat → Nat → Int) (rank : Nat → Nat) (at_ : Nat) (R : Nat → Nat → Int) : Prop where
  ex : ∃ x, Half (h := h) (w := w) (i := i) (j := j) (m := m) (t := t) raise d x0 rank at_ x ∧ Rooms h w i j m t raise x R
theorem HalfR.start {raise : Bool} {d : Int} {x0 R : Nat → Nat → Int} {rank : Nat → Nat} (hx : Legal h w i j m t x0) (hi : i < h) (hj : j < w) (hm : m i j = true) (hR : Rooms h w i j m t raise x0 R) :
    HalfR (h := h) (w := w) (i := i) (j := j) (m := m) (t := t) raise d x0 rank (h + j) R :=
  ⟨_, Half.start hx hi hj hm, ⟨fun k hk l hl hne hm => by rw [upd_other hne]; exact hR.down k hk l hl hne hm, hR.none_, hR.rows, hR.cols⟩⟩
theorem HalfR.step {raise : Bool} {d : Int} {x0 R0 R R' : Nat → Nat → Int} {rank : Nat → Nat} {p v : Nat} (hx : HalfR (h := h) (w := w) (i := i) (j := j) (m := m) (t := t) raise d x0 rank v R) (h0 : Rooms h w i j m t raise x0 R0) (hd : 0 ≤ d)
    (hr : rank p < rank v) (he : Edge h w i j m raise x0 p v) (hroom : d ≤ R0 p v) (hR' : ∀ a b, R' a b = if a = p ∧ b = v then R p v - d else if a = v ∧ b = p then R v p + d else R a b) :
    HalfR (h := h) (w := w) (i := i) (j := j) (m := m) (t := t) raise d x0 rank p R' := by
  obtain ⟨x, hh, hrm⟩ := hx.ex
  have hrm' : (p < h → raise = true → d ≤ x0 p (v - h)) ∧ (h ≤ p → raise = false → d ≤ x0 v (p - h)) := by
    rcases he with ⟨h1, h2, h3, h4, h5, h6⟩ | ⟨h1, h2, h3, h4, h5, h6⟩
    · refine ⟨fun _ hra => ?_, fun h => by omega⟩
      obtain ⟨l, rfl⟩ : ∃ l, v = h + l := ⟨v - h, by omega⟩
      rw [Nat.add_sub_cancel_left] at h5 ⊢
      have := (h0.down p h1 l (by omega) (fun e => h4 ⟨e.1, by omega⟩) h5).1
      rw [hra, if_pos rfl] at this
      omega
    · refine ⟨fun h => by omega, fun _ hra => ?_⟩
      obtain ⟨l, rfl⟩ : ∃ l, p = h + l := ⟨p - h, by omega⟩
      rw [Nat.add_sub_cancel_left] at h5 ⊢
      have := (h0.down v h3 l (by omega) (fun e => h4 ⟨e.1, by omega⟩) h5).2
      rw [hra, if_neg (by decide)] at this
      omega
  have hpv : (p < h ∧ h ≤ v ∧ ¬ (p = i ∧ v = h + j) ∧ m p (v - h) = true) ∨ (h ≤ p ∧ v < h ∧ ¬ (v = i ∧ p = h + j) ∧ m v (p - h) = true) := by
    rcases he with ⟨h1, h2, h3, h4, h5, h6⟩ | ⟨h1, h2, h3, h4, h5, h6⟩
    · exact .inl ⟨h1, h2, h4, h5⟩
    · exact .inr ⟨h1, h3, h4, h5⟩
  have hb : p < h + w ∧ v < h + w := by
    rcases he with ⟨h1, h2, h3, h4, h5, h6⟩ | ⟨h1, h2, h3, h4, h5, h6⟩ <;> omega
  have hs := hrm.step hb.1 hb.2 hpv hR'
  rcases hh.step hd hr he hrm' with ⟨h1, _, _, h4⟩ | ⟨h1, _, _, h4⟩
  · rw [if_pos h1] at hs; exact ⟨_, h4, hs⟩
  · rw [if_neg (by omega)] at hs; exact ⟨_, h4, hs⟩
theorem HalfR.done {raise : Bool} {d : Int} {x0 R : Nat → Nat → Int} {rank : Nat → Nat} (hx : HalfR (h := h) (w := w) (i := i) (j := j) (m := m) (t := t) raise d x0 rank i R) (hi : i < h) :
    ∃ x, Legal h w i j m t x ∧ x i j = x0 i j + sg raise * d ∧ Rooms h w i j m t raise x R := by
  obtain ⟨x, hh, hrm⟩ := hx.ex
  obtain ⟨h1, h2⟩ := hh.done hi
  exact ⟨x, h1, h2, hrm⟩
/-- All rooms are numbers between -(a little) and a lot. -/
theorem HalfR.small {raise : Bool} {d : Int} {x0 R : Nat → Nat → Int} {rank : Nat → Nat} {at_ : Nat} (hx : HalfR (h := h) (w := w) (i := i) (j := j) (m := m) (t := t) raise d x0 rank at_ R) (hh : h ≤ 4) (hw : w ≤ 4) (h0 : ∀ k, k < h → ∀ l, l < w → 0 ≤ t k l) (hc : ∀ k, k < h → ∀ l, l < w → t k l ≤ 99) (hd : 0 ≤ d ∧ d ≤ 3168)
    {u v : Nat} (hu : u < h + w) (hv : v < h + w) : -10000 ≤ R u v ∧ R u v ≤ 10000 := by
  obtain ⟨x, hh', hrm⟩ := hx.ex
  have key : ∀ k, k < h → ∀ l, l < w → (-10000 ≤ R k (h + l) ∧ R k (h + l) ≤ 10000) ∧ (-10000 ≤ R (h + l) k ∧ R (h + l) k ≤ 10000) := by
    intro k hk l hl
    by_cases e : k = i ∧ l = j
    · have := hrm.none_ k hk l hl (.inl e)
      rw [this.1, this.2]
      omega
    · cases hm : m k l with
      | false =>
        have := hrm.none_ k hk l hl (.inr hm)
        rw [this.1, this.2]
        omega
      | true =>
        have h1 := hrm.down k hk l hl e hm
        have h2 : 0 ≤ x k l := hh'.nn k hk l hl e
        have h3 := h0 k hk l hl
        have h4 := hc k hk l hl
        have h5 : x k l ≤ 396 + 2 * 3168 := by
          have r1 := rowS_le (t := t) hc hk
          have r2 := colS_le (t := t) hc hl
          have hsg : sg raise * d ≤ 3168 ∧ -3168 ≤ sg raise * d := by cases raise <;> simp [sg] <;> omega
          by_cases ek : k = i
          · have c1 := hh'.col l hl
            have c2 : x k l ≤ colS h x l := sumI_ge (f := fun k => x k l) hk fun k' hk' _ => hh'.nn k' hk' l hl fun e' => e ⟨ek, e'.2⟩
            split at c1 <;> omega
          · have c1 := hh'.row k hk
            have c2 : x k l ≤ rowS w x k := sumI_ge (f := fun l => x k l) hl fun l' hl' _ => hh'.nn k hk l' hl' fun e' => ek e'.1
            split at c1 <;> split at c1 <;> omega
        rw [h1.1, h1.2]
        cases raise <;> simp <;> omega
  by_cases hu1 : u < h <;> by_cases hv1 : v < h
  · rw [hrm.rows u hu1 v hv1]; omega
  · obtain ⟨l, rfl⟩ : ∃ l, v = h + l := ⟨v - h, by omega⟩
    exact (key u hu1 l (by omega)).1
  · obtain ⟨l, rfl⟩ : ∃ l, u = h + l := ⟨u - h, by omega⟩
    exact (key v hv1 l (by omega)).2
  · obtain ⟨k, rfl⟩ : ∃ l, u = h + l := ⟨u - h, by omega⟩
    obtain ⟨l, rfl⟩ : ∃ l, v = h + l := ⟨v - h, by omega⟩
    rw [hrm.cols k (by omega) l (by omega)]; omega
end
end Go.FlowMath
