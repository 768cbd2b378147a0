/-
  Rows of rows that a call makes itself, whatever their elements: what they are in memory, appends, stores.
-/
import Derived.Test.YtgnmfbgoacfjeaaDoorMask
import Derived.Test.YtgnmfbgoacfjeaaDoorGrow
namespace Go.Proofs.YtgnmfbgoacfjeaaDoor
open Go.RowKit

/-- Rows of rows of the call's own: the outer slice is v, row i lies in block g i. -/
structure MtG {α : Type} (enc : α → Value) (RT ET : TypeId) (w : World) (base : Nat) (v : Value) (T : List (List α)) (g : Nat → Nat) : Prop where
  top : ∃ cs, w.ownsRow base RT 1 v T.length cs ∧ ∀ i, i < T.length → ∃ c, cs[i]? = some (.slice (some ⟨g i, 0, none⟩) (T.getD i []).length c) ∧ (T.getD i []).length ≤ c ∧ c ≤ 9223372036854775807
  row : ∀ i, i < T.length → ∃ n f, (T.getD i []).length ≤ n ∧ w.rowIs (g i) ET n f ∧ ∀ j x, (T.getD i [])[j]? = some x → f j = enc x
  low : ∀ i, i < T.length → base ≤ g i
  inj : ∀ i j, i < T.length → j < T.length → g i = g j → i = j

section
variable {α : Type} {enc : α → Value} {RT ET : TypeId} {w w' : World} {base : Nat} {v : Value} {T : List (List α)} {g : Nat → Nat}
theorem MtG.lt (h : MtG enc RT ET w base v T g) {i : Nat} (hi : i < T.length) : g i < w.heap.size := by
  obtain ⟨n, f, _, hf, _⟩ := h.row i hi
  exact hf.lt
theorem MtG.nil (w : World) (base : Nat) (g : Nat → Nat) : MtG enc RT ET w base (.slice none 0 0) ([] : List (List α)) g :=
  ⟨⟨[], World.ownsRow_nil _ _ _ _, fun i hi => absurd hi (by simp)⟩, fun i hi => absurd hi (by simp), fun i hi => absurd hi (by simp), fun i j hi => absurd hi (by simp)⟩
theorem MtG.below (h : MtG enc RT ET w base v T g) (hb : Below w.heap.size w w') : MtG enc RT ET w' base v T g := by
  obtain ⟨cs, hc, hcs⟩ := h.top
  refine ⟨⟨cs, orow_below hc hb, hcs⟩, fun i hi => ?_, h.low, h.inj⟩
  obtain ⟨n, f, h1, hf, h2⟩ := h.row i hi
  exact ⟨n, f, h1, hf.of_block (hb.block _ hf.lt), h2⟩
theorem MtG.drewN (h : MtG enc RT ET w base v T g) (q : Nat) : MtG enc RT ET (w.drewN q) base v T g := h.below (below_draws _ _)
/-- The outer slice's own block is none of the rows'. -/
theorem own_ne {k n m b : Nat} {f : Nat → Value} {cs : List Value} (hne : RT ≠ ET) (h : w.ownsRow base RT 1 v n cs) (hr : w.rowIs b ET m f) (hk : v.ownBlock = some k) : k ≠ b := by
  rcases h.2 with ⟨rfl, _⟩ | ⟨g', cap, cur, rfl, _, hh, _⟩
  · simp [Value.ownBlock] at hk
  · have : g' = k := by simpa [Value.ownBlock] using hk
    subst this
    rintro rfl
    obtain ⟨c, hc, _⟩ := hr
    rw [hh] at hc
    injection hc with hc
    injection hc with _ ht
    exact hne ht
/-- A row more. -/
theorem MtG.snoc {w1 w2 : World} {v' : Value} (hne : RT ≠ ET) (h : MtG enc RT ET w base v T g) (hb : Below w.heap.size w w1) {cs : List Value} (hc : w.ownsRow base RT 1 v T.length cs)
    (hcs : ∀ i, i < T.length → ∃ c, cs[i]? = some (.slice (some ⟨g i, 0, none⟩) (T.getD i []).length c) ∧ (T.getD i []).length ≤ c ∧ c ≤ 9223372036854775807)
    {r : List α} {g0 n c : Nat} {f : Nat → Value} (hg0 : w.heap.size ≤ g0) (hbase : base ≤ w.heap.size) (hrow : w1.rowIs g0 ET n f) (hn : r.length ≤ n) (hf : ∀ j x, r[j]? = some x → f j = enc x) (hc1 : r.length ≤ c) (hc2 : c ≤ 9223372036854775807)
    (h2 : w2.ownsRow base RT 1 v' (T.length + 1) (cs ++ [.slice (some ⟨g0, 0, none⟩) r.length c])) (hg : w1.grownBy w2 v.ownBlock) :
    MtG enc RT ET w2 base v' (T ++ [r]) (fun i => if i = T.length then g0 else g i) := by
  have hcl : cs.length = T.length := by have := hc.1; omega
  have hl : (T ++ [r]).length = T.length + 1 := by simp
  have gl : ∀ i, i < T.length → (T ++ [r]).getD i [] = T.getD i [] := fun i hi => by
    simp only [List.getD_eq_getElem?_getD]; rw [List.getElem?_append_left hi]
  have ge : (T ++ [r]).getD T.length [] = r := by simp [List.getD_eq_getElem?_getD]
  have keep : ∀ {b m : Nat} {f : Nat → Value}, w1.rowIs b ET m f → w2.rowIs b ET m f := fun {b m f} hr => by
    refine hr.of_block (hg.block b hr.lt fun e => ?_)
    exact own_ne hne (orow_below hc hb) hr e.symm rfl
  refine ⟨⟨_, by rw [hl]; exact h2, fun i hi => ?_⟩, fun i hi => ?_, fun i hi => ?_, fun i j hi hj e => ?_⟩
  · rw [hl] at hi
    by_cases e : i = T.length
    · subst e
      rw [ge]
      simp only [if_true]
      refine ⟨c, ?_, hc1, hc2⟩
      rw [List.getElem?_append_right (by omega), hcl, Nat.sub_self]
      rfl
    · rw [gl i (by omega)]
      simp only [if_neg e]
      obtain ⟨c', q1, q2⟩ := hcs i (by omega)
      exact ⟨c', by rw [List.getElem?_append_left (by omega)]; exact q1, q2⟩
  · rw [hl] at hi
    by_cases e : i = T.length
    · subst e
      rw [ge]
      simp only [if_true]
      exact ⟨n, f, hn, keep hrow, hf⟩
    · rw [gl i (by omega)]
      simp only [if_neg e]
      obtain ⟨n', f', q1, q2, q3⟩ := h.row i (by omega)
      exact ⟨n', f', q1, keep (q2.of_block (hb.block _ q2.lt)), q3⟩
  · rw [hl] at hi
    by_cases e : i = T.length
    · simp only [if_pos e]; omega
    · simp only [if_neg e]; exact h.low i (by omega)
  · rw [hl] at hi hj
    by_cases e1 : i = T.length
    all_goals by_cases e2 : j = T.length
    · omega
    · simp only [if_pos e1, if_neg e2] at e
      have := h.lt (show j < T.length by omega)
      omega
    · simp only [if_neg e1, if_pos e2] at e
      have := h.lt (show i < T.length by omega)
      omega
    · simp only [if_neg e1, if_neg e2] at e
      exact h.inj i j (by omega) (by omega) e
theorem getD_set {β : Type} (l : List β) (i k : Nat) (x d : β) (hi : i < l.length) : (l.set i x).getD k d = if k = i then x else l.getD k d := by
  simp only [List.getD_eq_getElem?_getD, List.getElem?_set]
  by_cases e : i = k
  · subst e; simp [hi]
  · rw [if_neg e, if_neg (fun h => e h.symm)]
/-- An element stored. -/
theorem MtG.put (hne : RT ≠ ET) (h : MtG enc RT ET w base v T g) {i j : Nat} (hi : i < T.length) (hj : j < (T.getD i []).length) (x : α) :
    MtG enc RT ET (w.setCell ⟨g i, j, none⟩ (enc x)) base v (T.set i ((T.getD i []).set j x)) g := by
  obtain ⟨cs, hc, hcs⟩ := h.top
  obtain ⟨n, f, h1, hf, h2⟩ := h.row i hi
  have hl : (T.set i ((T.getD i []).set j x)).length = T.length := List.length_set
  have hgl : ∀ k, ((T.set i ((T.getD i []).set j x)).getD k []).length = (T.getD k []).length := fun k => by
    rw [getD_set _ _ _ _ _ hi]
    by_cases e : k = i
    · subst e; rw [if_pos rfl, List.length_set]
    · rw [if_neg e]
  refine ⟨⟨cs, ?_, fun k hk => ?_⟩, fun k hk => ?_, fun k hk => h.low k (by rw [hl] at hk; exact hk), fun a b ha hb e => h.inj a b (by rw [hl] at ha; exact ha) (by rw [hl] at hb; exact hb) e⟩
  · rw [hl]
    refine World.ownsRow.kept (row := some (g i)) hc ⟨rfl, rfl, rfl, by simp [World.setCell], fun k _ hk => Below.heap_setCell _ _ _ _ (fun e => hk (by rw [e]))⟩ ?_
    cases hv : v.ownBlock with
    | none => exact .inl rfl
    | some k => exact .inr (fun e => by injection e with e; exact own_ne hne hc hf hv e)
  · rw [hl] at hk
    rw [hgl k]
    exact hcs k hk
  · rw [hl] at hk
    rw [hgl k]
    by_cases e : k = i
    · subst e
      refine ⟨n, _, h1, hf.set j _, fun j' x' hx => ?_⟩
      rw [getD_set _ _ _ _ _ hi, if_pos rfl, List.getElem?_set] at hx
      by_cases e2 : j = j'
      · subst e2
        rw [if_pos rfl, if_pos hj] at hx
        cases hx
        simp
      · rw [if_neg e2] at hx
        simp only [if_neg (fun h : j' = j => e2 h.symm)]
        exact h2 j' x' hx
    · obtain ⟨n', f', q1, q2, q3⟩ := h.row k hk
      refine ⟨n', f', q1, q2.setOther (fun e2 => e (h.inj k i hk hi e2)) _, fun j' x' hx => ?_⟩
      rw [getD_set _ _ _ _ _ hi, if_neg e] at hx
      exact q3 j' x' hx
/-- Its cells. -/
theorem MtG.cells (h : MtG enc RT ET w base v T g) : ∃ ao b cap, v = .slice ao T.length cap ∧ T.length ≤ cap ∧ cap ≤ 9223372036854775807 ∧ (0 < T.length → ao = some ⟨b, 0, none⟩ ∧ base ≤ b ∧ b < w.heap.size) ∧
    (∀ i, i < T.length → ∃ c, w.cell? ⟨b, i, none⟩ = some (.slice (some ⟨g i, 0, none⟩) (T.getD i []).length c) ∧ (T.getD i []).length ≤ c ∧ c ≤ 9223372036854775807) ∧
    ∀ i, i < T.length → ∀ j x, (T.getD i [])[j]? = some x → w.cell? ⟨g i, j, none⟩ = some (enc x) ∧ w.frozen? ⟨g i, j, none⟩ = false := by
  obtain ⟨cs, hc, hcs⟩ := h.top
  obtain ⟨ao, b, cap, hv, h1, h2, h3, h4⟩ := orow_cells hc
  refine ⟨ao, b, cap, hv, h1, h2, h3, fun i hi => ?_, fun i hi j x hx => ?_⟩
  · obtain ⟨c, q1, q2⟩ := hcs i hi
    exact ⟨c, h4 i _ q1, q2⟩
  · obtain ⟨n, f, q1, q2, q3⟩ := h.row i hi
    have hj := (List.getElem?_eq_some_iff.1 hx).1
    exact ⟨by rw [q2.cell (by omega), q3 j x hx], q2.frozen j⟩
end

/-- Rows of numbers. -/
abbrev MtI := MtG (Value.int .i64) 46 3
/-- Rows of flags. -/
abbrev MtB := MtG Value.bool 47 4
theorem get_of {β : Type} {l : List β} {j : Nat} {d : β} (h : j < l.length) : l[j]? = some (l.getD j d) := by
  rw [List.getD_eq_getElem?_getD, List.getElem?_eq_getElem h]; rfl
theorem MtG.tab {w : World} {base : Nat} {v : Value} {T : List (List Int)} {g : Nat → Nat} (h : MtI w base v T g) : ∃ ao b cap, v = .slice ao T.length cap ∧ T.length ≤ cap ∧ cap ≤ 9223372036854775807 ∧ Tab .i64 w ao b 0 T := by
  obtain ⟨ao, b, cap, hv, h1, h2, h3, h4, h5⟩ := h.cells
  refine ⟨ao, b, cap, hv, h1, h2, fun hp => (h3 hp).1, fun i hi => ?_⟩
  obtain ⟨c, q1, q2, q3⟩ := h4 i hi
  rw [Nat.zero_add]
  exact ⟨_, g i, 0, c, q1, ⟨fun _ => rfl, fun j hj => by rw [Nat.zero_add]; exact (h5 i hi j _ (get_of hj)).1⟩, q2, q3⟩
theorem MtG.tabB {w : World} {base : Nat} {v : Value} {T : List (List Bool)} {g : Nat → Nat} (h : MtB w base v T g) : ∃ ao b cap, v = .slice ao T.length cap ∧ T.length ≤ cap ∧ cap ≤ 9223372036854775807 ∧ TabB w ao b 0 T := by
  obtain ⟨ao, b, cap, hv, h1, h2, h3, h4, h5⟩ := h.cells
  refine ⟨ao, b, cap, hv, h1, h2, fun hp => (h3 hp).1, fun i hi => ?_⟩
  obtain ⟨c, q1, q2, q3⟩ := h4 i hi
  rw [Nat.zero_add]
  exact ⟨_, g i, 0, c, q1, ⟨fun _ => rfl, fun j hj => by rw [Nat.zero_add]; exact (h5 i hi j _ (get_of hj)).1⟩, q2, q3⟩
theorem eltR : Elt 32 46 (.slice none 0 0) 1 24 := ⟨Tryd.underlying32, by kernel_rfl, rfl, by decide, by decide⟩
theorem eltRB : Elt 42 47 (.slice none 0 0) 1 24 := ⟨Tryd.underlying42, by kernel_rfl, rfl, by decide, by decide⟩
theorem eltI : Elt 46 3 (.int .i64 0) 1 8 := ⟨Tryd.underlying46, by kernel_rfl, rfl, by decide, by decide⟩
theorem eltB : Elt 47 4 (.bool false) 1 1 := ⟨Tryd.underlying47, by kernel_rfl, rfl, by decide, by decide⟩
end Go.Proofs.YtgnmfbgoacfjeaaDoor
