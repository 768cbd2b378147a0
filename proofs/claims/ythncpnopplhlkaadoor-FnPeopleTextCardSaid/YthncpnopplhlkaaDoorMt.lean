/-
  Rows of rows that a call makes itself, whatever their elements: what they are in memory, appends, stores.
-/
import Derived.Test.YthncpnopplhlkaaDoorTabB
import Derived.Test.YthncpnopplhlkaaDoorGrow
import Derived.Test.YthncpnopplhlkaaDoorDrawP
namespace Go.Proofs.YthncpnopplhlkaaDoor
open Go.RowKit

/-- Rows of rows of the call's own: the outer slice is v, row i lies in block g i. -/
structure MtG {α : Type} (enc : α → Value) (RT ET : TypeId) (w : World) (base : Nat) (v : Value) (T : List (List α)) (g : Nat → Nat) : Prop where
  top : ∃ cs, w.ownsRow base RT 1 v T.length cs ∧ ∀ i, i < T.length → ∃ c f, cs[i]? = some (.slice (some ⟨g i, 0, none⟩) (T.getD i []).length c) ∧ (T.getD i []).length ≤ c ∧ c ≤ 9223372036854775807 ∧
    w.rowIs (g i) ET c f ∧ ∀ j x, (T.getD i [])[j]? = some x → f j = enc x
  low : ∀ i, i < T.length → base ≤ g i
  inj : ∀ i j, i < T.length → j < T.length → g i = g j → i = j

/-- A row that is only read. -/
def RowG {α : Type} (enc : α → Value) (w : World) (ao : Option Addr) (b off : Nat) (xs : List α) : Prop :=
  (0 < xs.length → ao = some ⟨b, off, none⟩) ∧ ∀ i x, xs[i]? = some x → w.cell? ⟨b, off + i, none⟩ = some (enc x)
/-- Rows that are only read, all from block B on. -/
def TabG {α : Type} (enc : α → Value) (B : Nat) (w : World) (ao : Option Addr) (b off : Nat) (T : List (List α)) : Prop :=
  (0 < T.length → ao = some ⟨b, off, none⟩) ∧ ∀ i, i < T.length → B ≤ b ∧ ∃ a' b' o' c', B ≤ b' ∧ w.cell? ⟨b, off + i, none⟩ = some (.slice a' (T.getD i []).length c') ∧
    RowG enc w a' b' o' (T.getD i []) ∧ (T.getD i []).length ≤ c' ∧ c' ≤ 9223372036854775807
theorem get_of {β : Type} {l : List β} {j : Nat} {d : β} (h : j < l.length) : l[j]? = some (l.getD j d) := by
  rw [List.getD_eq_getElem?_getD, List.getElem?_eq_getElem h]; rfl
theorem TabG.int {B : Nat} {w : World} {ao : Option Addr} {b off : Nat} {T : List (List Int)} (h : TabG (Value.int .i64) B w ao b off T) : Tab .i64 w ao b off T :=
  ⟨h.1, fun i hi => by
    obtain ⟨_, a', b', o', c', _, h1, h2, h3⟩ := h.2 i hi
    exact ⟨a', b', o', c', h1, ⟨h2.1, fun j hj => h2.2 j _ (get_of hj)⟩, h3⟩⟩
theorem TabG.bool {B : Nat} {w : World} {ao : Option Addr} {b off : Nat} {T : List (List Bool)} (h : TabG Value.bool B w ao b off T) : TabB w ao b off T :=
  ⟨h.1, fun i hi => by
    obtain ⟨_, a', b', o', c', _, h1, h2, h3⟩ := h.2 i hi
    exact ⟨a', b', o', c', h1, ⟨h2.1, fun j hj => h2.2 j _ (get_of hj)⟩, h3⟩⟩
/-- It is kept where only what lies below B, or is new, has turned. -/
theorem TabG.kept {α : Type} {enc : α → Value} {B : Nat} {w w' : World} {ao : Option Addr} {b off : Nat} {T : List (List α)} {row : Option Nat} (h : TabG enc B w ao b off T) (hg : w.grownBy w' row) (hr : ∀ k, row = some k → k < B) : TabG enc B w' ao b off T := by
  have key : ∀ {x o : Nat} {u : Value}, B ≤ x → w.cell? ⟨x, o, none⟩ = some u → w'.cell? ⟨x, o, none⟩ = some u := fun {x o u} hx hu =>
    (World.cell?_of_block (hg.block x (World.block_lt_of_cell? _ _ hu) (fun e => by have := hr _ e.symm; omega))).trans hu
  refine ⟨h.1, fun i hi => ?_⟩
  obtain ⟨hb, a', b', o', c', hb', h1, h2, h3⟩ := h.2 i hi
  exact ⟨hb, a', b', o', c', hb', key hb h1, ⟨h2.1, fun j x hx => key hb' (h2.2 j x hx)⟩, h3⟩

theorem Only.cell {rb b o : Nat} {w w' : World} (h : Only rb w w') (hb : b ≠ rb) : w'.cell? ⟨b, o, none⟩ = w.cell? ⟨b, o, none⟩ := World.cell?_of_block (h.2.2.2.2 b hb)
theorem Only.frozen {rb b o : Nat} {w w' : World} (h : Only rb w w') (hb : b ≠ rb) : w'.frozen? ⟨b, o, none⟩ = w.frozen? ⟨b, o, none⟩ := by
  have := h.2.2.2.2 b hb
  simp [World.frozen?, this]
section
variable {α : Type} {enc : α → Value} {RT ET : TypeId} {w w' : World} {base : Nat} {v : Value} {T : List (List α)} {g : Nat → Nat}
theorem MtG.lt (h : MtG enc RT ET w base v T g) {i : Nat} (hi : i < T.length) : g i < w.heap.size := by
  obtain ⟨cs, _, hcs⟩ := h.top
  obtain ⟨c, f, _, _, _, hf, _⟩ := hcs i hi
  exact hf.lt
theorem MtG.nil (w : World) (base : Nat) (g : Nat → Nat) : MtG enc RT ET w base (.slice none 0 0) ([] : List (List α)) g :=
  ⟨⟨[], World.ownsRow_nil _ _ _ _, fun i hi => absurd hi (by simp)⟩, fun i hi => absurd hi (by simp), fun i j hi => absurd hi (by simp)⟩
theorem MtG.lit {H : Nat} (w : World) (base : Nat) (g : Nat → Nat) (hb : base ≤ w.heap.size) (hH : H = w.heap.size) : MtG enc RT ET (w.alloc (.cells #[] RT)) base (.slice (some ⟨H, 0, none⟩) 0 0) ([] : List (List α)) g := by
  subst hH
  refine ⟨⟨[], ?_, fun i hi => absurd hi (by simp)⟩, fun i hi => absurd hi (by simp), fun i j hi => absurd hi (by simp)⟩
  have := World.ownsRow_lit (base := base) (e := RT) (size := 1) w #[] 0 hb (by unfold maxLen; omega) (by simp)
  simpa using this
/-- It is kept where its blocks are kept. -/
theorem MtG.kept {row : Option Nat} (h : MtG enc RT ET w base v T g) (hg : w.grownBy w' row) (hr : ∀ k, row = some k → k < base ∨ w.heap.size ≤ k) : MtG enc RT ET w' base v T g := by
  obtain ⟨cs, hc, hcs⟩ := h.top
  refine ⟨⟨cs, ?_, fun i hi => ?_⟩, h.low, h.inj⟩
  · refine World.ownsRow.kept (row := row) hc hg ?_
    cases hv : v.ownBlock with
    | none => exact .inl rfl
    | some k =>
      refine .inr (fun e => ?_)
      have := World.ownsRow.lt hc k hv
      have := hr k e.symm
      omega
  · obtain ⟨c, f, h1, h2, h3, hf, h4⟩ := hcs i hi
    refine ⟨c, f, h1, h2, h3, hf.of_block (hg.block _ hf.lt fun e => ?_), h4⟩
    have := hr _ e.symm
    have := h.low i hi
    have := hf.lt
    omega
theorem MtG.below (h : MtG enc RT ET w base v T g) (hb : Below w.heap.size w w') : MtG enc RT ET w' base v T g :=
  h.kept (row := none) ⟨hb.os, hb.tape, hb.output, hb.size, fun k hk _ => hb.block k hk⟩ (fun k e => by cases e)
theorem MtG.drewN (h : MtG enc RT ET w base v T g) (q : Nat) : MtG enc RT ET (w.drewN q) base v T g := h.below (below_draws _ _)
theorem MtG.only {rb : Nat} (h : MtG enc RT ET w base v T g) (ho : Only rb w w') (hrb : rb < base) : MtG enc RT ET w' base v T g :=
  h.kept (row := some rb) ⟨ho.1, ho.2.1, ho.2.2.1, Nat.le_of_eq ho.2.2.2.1.symm, fun k _ hne => ho.2.2.2.2 k (fun e => hne (by rw [e]))⟩ (fun k e => by injection e with e; omega)
/-- The outer slice's own block is none of the rows'. -/
theorem own_ne {k n m b : Nat} {f : Nat → Value} {cs : List Value} (hne : RT ≠ ET) (h : w.ownsRow base RT 1 v n cs) (hr : w.rowIs b ET m f) (hk : v.ownBlock = some k) : k ≠ b := by
  rcases h.2 with ⟨rfl, _⟩ | ⟨g', cap, cur, rfl, _, hh, _⟩
  · simp [Value.ownBlock] at hk
  · have : g' = k := by simpa [Value.ownBlock] using hk
    subst this
    rintro rfl
    obtain ⟨c, hc, _⟩ := hr
    rw [hh] at hc
    injection hc with hc
    injection hc with _ ht
    exact hne ht
/-- A row more. -/
theorem MtG.snoc {w2 : World} {v' : Value} (hne : RT ≠ ET) (h : MtG enc RT ET w base v T g) {cs : List Value} (hc : w.ownsRow base RT 1 v T.length cs)
    (hcs : ∀ i, i < T.length → ∃ c f, cs[i]? = some (.slice (some ⟨g i, 0, none⟩) (T.getD i []).length c) ∧ (T.getD i []).length ≤ c ∧ c ≤ 9223372036854775807 ∧ w.rowIs (g i) ET c f ∧ ∀ j x, (T.getD i [])[j]? = some x → f j = enc x)
    {r : List α} {g0 c : Nat} {f : Nat → Value} (hg0 : ∀ i, i < T.length → g i ≠ g0) (hbase : base ≤ g0) (hrow : w.rowIs g0 ET c f) (hf : ∀ j x, r[j]? = some x → f j = enc x) (hc1 : r.length ≤ c) (hc2 : c ≤ 9223372036854775807)
    (h2 : w2.ownsRow base RT 1 v' (T.length + 1) (cs ++ [.slice (some ⟨g0, 0, none⟩) r.length c])) (hg : w.grownBy w2 v.ownBlock) :
    MtG enc RT ET w2 base v' (T ++ [r]) (fun i => if i = T.length then g0 else g i) := by
  have hcl : cs.length = T.length := by have := hc.1; omega
  have hl : (T ++ [r]).length = T.length + 1 := by simp
  have gl : ∀ i, i < T.length → (T ++ [r]).getD i [] = T.getD i [] := fun i hi => by
    simp only [List.getD_eq_getElem?_getD]; rw [List.getElem?_append_left hi]
  have ge : (T ++ [r]).getD T.length [] = r := by simp [List.getD_eq_getElem?_getD]
  have keep : ∀ {b m : Nat} {f : Nat → Value}, w.rowIs b ET m f → w2.rowIs b ET m f := fun {b m f} hr => by
    refine hr.of_block (hg.block b hr.lt fun e => ?_)
    exact own_ne hne hc hr e.symm rfl
  refine ⟨⟨_, by rw [hl]; exact h2, fun i hi => ?_⟩, fun i hi => ?_, fun i j hi hj e => ?_⟩
  · rw [hl] at hi
    by_cases e : i = T.length
    · subst e
      rw [ge]
      simp only [if_true]
      refine ⟨c, f, ?_, hc1, hc2, keep hrow, hf⟩
      rw [List.getElem?_append_right (by omega), hcl, Nat.sub_self]
      rfl
    · rw [gl i (by omega)]
      simp only [if_neg e]
      obtain ⟨c', f', q1, q2, q3, q4, q5⟩ := hcs i (by omega)
      exact ⟨c', f', by rw [List.getElem?_append_left (by omega)]; exact q1, q2, q3, keep q4, q5⟩
  · rw [hl] at hi
    by_cases e : i = T.length
    · simp only [if_pos e]; omega
    · simp only [if_neg e]; exact h.low i (by omega)
  · rw [hl] at hi hj
    by_cases e1 : i = T.length
    all_goals by_cases e2 : j = T.length
    · omega
    · simp only [if_pos e1, if_neg e2] at e
      exact absurd e.symm (hg0 j (by omega))
    · simp only [if_neg e1, if_pos e2] at e
      exact absurd e (hg0 i (by omega))
    · simp only [if_neg e1, if_neg e2] at e
      exact h.inj i j (by omega) (by omega) e
theorem getD_set {β : Type} (l : List β) (i k : Nat) (x d : β) (hi : i < l.length) : (l.set i x).getD k d = if k = i then x else l.getD k d := by
  simp only [List.getD_eq_getElem?_getD, List.getElem?_set]
  by_cases e : i = k
  · subst e; simp [hi]
  · rw [if_neg e, if_neg (fun h => e h.symm)]
/-- An element stored. -/
theorem MtG.put (hne : RT ≠ ET) (h : MtG enc RT ET w base v T g) {i j : Nat} (hi : i < T.length) (hj : j < (T.getD i []).length) (x : α) :
    MtG enc RT ET (w.setCell ⟨g i, j, none⟩ (enc x)) base v (T.set i ((T.getD i []).set j x)) g := by
  obtain ⟨cs, hc, hcs⟩ := h.top
  obtain ⟨n, f, h0, h1, h2, hf, h3⟩ := hcs i hi
  have hl : (T.set i ((T.getD i []).set j x)).length = T.length := List.length_set
  have hgl : ∀ k, ((T.set i ((T.getD i []).set j x)).getD k []).length = (T.getD k []).length := fun k => by
    rw [getD_set _ _ _ _ _ hi]
    by_cases e : k = i
    · subst e; rw [if_pos rfl, List.length_set]
    · rw [if_neg e]
  refine ⟨⟨cs, ?_, fun k hk => ?_⟩, fun k hk => h.low k (by rw [hl] at hk; exact hk), fun a b ha hb e => h.inj a b (by rw [hl] at ha; exact ha) (by rw [hl] at hb; exact hb) e⟩
  · rw [hl]
    refine World.ownsRow.kept (row := some (g i)) hc ⟨rfl, rfl, rfl, by simp [World.setCell], fun k _ hk => Below.heap_setCell _ _ _ _ (fun e => hk (by rw [e]))⟩ ?_
    cases hv : v.ownBlock with
    | none => exact .inl rfl
    | some k => exact .inr (fun e => by injection e with e; exact own_ne hne hc hf hv e)
  · rw [hl] at hk
    rw [hgl k]
    by_cases e : k = i
    · subst e
      refine ⟨n, _, h0, h1, h2, hf.set j _, fun j' x' hx => ?_⟩
      rw [getD_set _ _ _ _ _ hi, if_pos rfl, List.getElem?_set] at hx
      by_cases e2 : j = j'
      · subst e2
        rw [if_pos rfl, if_pos hj] at hx
        cases hx
        simp
      · rw [if_neg e2] at hx
        simp only [if_neg (fun h : j' = j => e2 h.symm)]
        exact h3 j' x' hx
    · obtain ⟨n', f', q0, q1, q2, q3, q4⟩ := hcs k hk
      refine ⟨n', f', q0, q1, q2, q3.setOther (fun e2 => e (h.inj k i hk hi e2)) _, fun j' x' hx => ?_⟩
      rw [getD_set _ _ _ _ _ hi, if_neg e] at hx
      exact q4 j' x' hx
/-- Its cells. -/
theorem MtG.cells (h : MtG enc RT ET w base v T g) : ∃ ao b cap, v = .slice ao T.length cap ∧ T.length ≤ cap ∧ cap ≤ 9223372036854775807 ∧ (0 < T.length → ao = some ⟨b, 0, none⟩ ∧ base ≤ b ∧ b < w.heap.size) ∧
    (∀ i, i < T.length → ∃ c, w.cell? ⟨b, i, none⟩ = some (.slice (some ⟨g i, 0, none⟩) (T.getD i []).length c) ∧ (T.getD i []).length ≤ c ∧ c ≤ 9223372036854775807) ∧
    ∀ i, i < T.length → ∀ j x, (T.getD i [])[j]? = some x → w.cell? ⟨g i, j, none⟩ = some (enc x) ∧ w.frozen? ⟨g i, j, none⟩ = false := by
  obtain ⟨cs, hc, hcs⟩ := h.top
  obtain ⟨ao, b, cap, hv, h1, h2, h3, h4⟩ := orow_cells hc
  refine ⟨ao, b, cap, hv, h1, h2, h3, fun i hi => ?_, fun i hi j x hx => ?_⟩
  · obtain ⟨c, f, q1, q2, q3, _⟩ := hcs i hi
    exact ⟨c, h4 i _ q1, q2, q3⟩
  · obtain ⟨c, f, q1, q2, q3, q4, q5⟩ := hcs i hi
    have hj := (List.getElem?_eq_some_iff.1 hx).1
    exact ⟨by rw [q4.cell (by omega), q5 j x hx], q4.frozen j⟩
theorem MtG.tabG (h : MtG enc RT ET w base v T g) : ∃ ao b cap, v = .slice ao T.length cap ∧ T.length ≤ cap ∧ cap ≤ 9223372036854775807 ∧ TabG enc base w ao b 0 T := by
  obtain ⟨ao, b, cap, hv, h1, h2, h3, h4, h5⟩ := h.cells
  refine ⟨ao, b, cap, hv, h1, h2, fun hp => (h3 hp).1, fun i hi => ?_⟩
  obtain ⟨c, q1, q2, q3⟩ := h4 i hi
  rw [Nat.zero_add]
  exact ⟨(h3 (by omega)).2.1, _, g i, 0, c, h.low i hi, q1, ⟨fun _ => rfl, fun j x hx => by rw [Nat.zero_add]; exact (h5 i hi j x hx).1⟩, q2, q3⟩
/-- Row i's place. -/
theorem MtG.at_ {tb n tc : Nat} (h : MtG enc RT ET w base (.slice (some ⟨tb, 0, none⟩) n tc) T g) {i : Nat} (hi : i < T.length) : ∃ c, w.cell? ⟨tb, i, none⟩ = some (.slice (some ⟨g i, 0, none⟩) (T.getD i []).length c) ∧ w.frozen? ⟨tb, i, none⟩ = false ∧ (T.getD i []).length ≤ c ∧ c ≤ 9223372036854775807 ∧ base ≤ tb ∧ tb < w.heap.size ∧ i < tc := by
  obtain ⟨cs, hc, hcs⟩ := h.top
  obtain ⟨c, f, q1, q2, q3, _⟩ := hcs i hi
  have hx := World.ownsRow.cells (g := tb) hc rfl i _ q1
  rw [add_none, Nat.zero_add] at hx
  rcases hc.2 with ⟨h0, _⟩ | ⟨b, cap, cur2, hv, hb, hh2, hn2, hm2, hs2, ht2⟩
  · cases h0
  · injection hv with e1 e2 e3
    injection e1 with e1
    injection e1 with e1
    subst e1
    subst e3
    exact ⟨c, hx, by simp [World.frozen?, hh2], q2, q3, hb, (Array.getElem?_eq_some_iff.1 hh2).1, by omega⟩
/-- Its elements. -/
theorem MtG.elt (h : MtG enc RT ET w base v T g) {i j : Nat} {x : α} (hi : i < T.length) (hx : (T.getD i [])[j]? = some x) : w.cell? ⟨g i, j, none⟩ = some (enc x) ∧ w.frozen? ⟨g i, j, none⟩ = false := by
  obtain ⟨_, _, _, _, _, _, _, _, h5⟩ := h.cells
  exact h5 i hi j x hx
theorem MtG.tb_ne {tb n tc : Nat} (hne : RT ≠ ET) (h : MtG enc RT ET w base (.slice (some ⟨tb, 0, none⟩) n tc) T g) {i : Nat} (hi : i < T.length) : tb ≠ g i := by
  obtain ⟨cs, hc, hcs⟩ := h.top
  obtain ⟨c, f, _, _, _, hf, _⟩ := hcs i hi
  exact own_ne hne hc hf rfl
theorem MtG.tabT {tb n tc : Nat} (h : MtG enc RT ET w base (.slice (some ⟨tb, 0, none⟩) n tc) T g) : TabG enc base w (some ⟨tb, 0, none⟩) tb 0 T := by
  refine ⟨fun _ => rfl, fun i hi => ?_⟩
  obtain ⟨c, q1, _, q2, q3, q4, _⟩ := h.at_ hi
  rw [Nat.zero_add]
  exact ⟨q4, _, g i, 0, c, h.low i hi, q1, ⟨fun _ => rfl, fun j x hx => by rw [Nat.zero_add]; exact (h.elt hi hx).1⟩, q2, q3⟩
/-- What row i owns, by itself. -/
theorem MtG.rowOwn (h : MtG enc RT ET w base v T g) (henc : ∀ x, (enc x).cells.size = 1) {i : Nat} (hi : i < T.length) : ∃ c, w.ownsRow base ET 1 (.slice (some ⟨g i, 0, none⟩) (T.getD i []).length c) (T.getD i []).length ((T.getD i []).map enc) ∧
    ∃ b cap, v = .slice (some ⟨b, 0, none⟩) T.length cap ∧ base ≤ b ∧ b < w.heap.size ∧ i < cap ∧ w.cell? ⟨b, i, none⟩ = some (.slice (some ⟨g i, 0, none⟩) (T.getD i []).length c) ∧ w.frozen? ⟨b, i, none⟩ = false := by
  obtain ⟨cs, hc, hcs⟩ := h.top
  obtain ⟨c, f, q1, q2, q3, ⟨cur, hh, hs, hcur⟩, q5⟩ := hcs i hi
  refine ⟨c, ⟨by simp, .inr ⟨g i, c, cur, rfl, h.low i hi, hh, q2, by unfold maxLen; exact q3, by rw [hs, Nat.mul_one], ?_⟩⟩, ?_⟩
  · apply List.ext_getElem?
    intro j
    by_cases hj : j < (T.getD i []).length
    · rw [Nat.mul_one, List.getElem?_take_of_lt hj, List.getElem?_map, List.getElem?_eq_getElem hj, Array.getElem?_toList, hcur j (by omega), q5 j _ (List.getElem?_eq_getElem hj)]
      rfl
    · rw [List.getElem?_eq_none (by rw [List.length_take]; omega), List.getElem?_eq_none (by rw [List.length_map]; omega)]
  · rcases hc.2 with ⟨_, h0⟩ | ⟨b, cap, cur2, rfl, hb, hh2, hn2, hm2, hs2, ht2⟩
    · omega
    · refine ⟨b, cap, rfl, hb, (Array.getElem?_eq_some_iff.1 hh2).1, by omega, ?_, by simp [World.frozen?, hh2]⟩
      obtain ⟨ao, b', cap', hv, _, _, _, h4⟩ := orow_cells hc
      have hx := World.ownsRow.cells (g := b) hc rfl i _ q1
      rw [add_none, Nat.zero_add] at hx
      exact hx
/-- Row i grown by one: what is there to be read. -/
theorem MtG.grow1 {w2 : World} {i : Nat} {c b cap : Nat} {u : Value} {x : α} (hne : RT ≠ ET) (h : MtG enc RT ET w base (.slice (some ⟨b, 0, none⟩) T.length cap) T g) (hi : i < T.length)
    (h2 : w2.ownsRow base ET 1 u ((T.getD i []).length + 1) ((T.getD i []).map enc ++ [enc x])) (hg : w.grownBy w2 (Value.slice (some ⟨g i, 0, none⟩) (T.getD i []).length c).ownBlock) :
    TabG enc base (w2.setCell ⟨b, i, none⟩ u) (some ⟨b, 0, none⟩) b 0 (T.set i (T.getD i [] ++ [x])) := by
  obtain ⟨cs, hc, hcs⟩ := h.top
  have hgb : (Value.slice (some ⟨g i, 0, none⟩) (T.getD i []).length c).ownBlock = some (g i) := rfl
  rw [hgb] at hg
  have hl : (T.set i (T.getD i [] ++ [x])).length = T.length := List.length_set
  obtain ⟨ci, fi, _, _, _, hri, _⟩ := hcs i hi
  have hbg : b ≠ g i := own_ne hne hc hri rfl
  have hbl : b < w.heap.size := (World.ownsRow.lt hc b rfl).2
  have hbw : ∀ k, w2.cell? ⟨b, k, none⟩ = w.cell? ⟨b, k, none⟩ := fun k => World.cell?_of_block (hg.block b hbl (fun e => hbg (by injection e)))
  have hbb0 : base ≤ b := (World.ownsRow.lt hc b rfl).1
  refine ⟨fun _ => rfl, fun k hk => ⟨hbb0, ?_⟩⟩
  rw [hl] at hk
  rw [Nat.zero_add]
  obtain ⟨ck, fk, k1, k2, k3, k4, k5⟩ := hcs k hk
  have hck := World.ownsRow.cells (g := b) hc rfl k _ k1
  rw [add_none, Nat.zero_add] at hck
  by_cases e : k = i
  · subst e
    rw [getD_set _ _ _ _ _ hi, if_pos rfl]
    obtain ⟨ao, b', cap', hv, n1, n2, n3, n4⟩ := orow_cells h2
    obtain ⟨n5, n6, _⟩ := n3 (by omega)
    have hbb : b ≠ b' := by
      have hbk : w2.heap[b]? = w.heap[b]? := hg.block b hbl (fun e => hbg (by injection e))
      have hcb : w2.ownsRow base RT 1 (.slice (some ⟨b, 0, none⟩) T.length cap) T.length cs := by
        refine World.ownsRow.kept (row := some (g k)) hc hg (.inr (fun e => hbg (by injection e)))
      rcases h2.2 with ⟨_, h0⟩ | ⟨g2, cap2, cur2, hv2, _, hh2, hn2, hm2, hs2, _⟩
      · omega
      · rw [hv] at hv2
        injection hv2 with e1 _ _
        rw [n5] at e1
        injection e1 with e1
        injection e1 with e1 _ _
        subst e1
        have hr2 : w2.rowIs b' ET cap2 (fun j => cur2.getD j undef) := ⟨cur2, hh2, by rw [hs2, Nat.mul_one], fun j hj => by
          have : j < cur2.size := by rw [hs2]; omega
          simp [Array.getD, this]⟩
        exact own_ne hne hcb hr2 rfl
    have hlen : ((T.getD k []) ++ [x]).length = (T.getD k []).length + 1 := by simp
    refine ⟨ao, b', 0, cap', n6, ?_, ⟨fun _ => n5, fun j y hy => ?_⟩, by omega, n2⟩
    · rw [World.cell?_setCell_same' _ _ _ (by rw [hbw, hck]; rfl), hv, hlen]
    · rw [World.cell?_setCell_other _ _ _ _ (fun e => hbb (by have := congrArg Addr.block e; first | exact this | exact this.symm)), Nat.zero_add]
      refine n4 j _ ?_
      have : (T.getD k [] ++ [x]).map enc = (T.getD k []).map enc ++ [enc x] := by simp
      rw [← this, List.getElem?_map, hy]
      rfl
  · rw [getD_set _ _ _ _ _ hi, if_neg e]
    have hgk : g k ≠ g i := fun e2 => e (h.inj k i hk hi e2)
    have hbk : b ≠ g k := own_ne hne hc k4 rfl
    refine ⟨some ⟨g k, 0, none⟩, g k, 0, ck, h.low k hk, ?_, ⟨fun _ => rfl, fun j y hy => ?_⟩, k2, k3⟩
    · rw [World.cell?_setCell_other _ _ _ _ (fun e2 => e (by have := congrArg Addr.off e2; first | exact this | exact this.symm)), hbw, hck]
    · have hj := (List.getElem?_eq_some_iff.1 hy).1
      rw [World.cell?_setCell_other _ _ _ _ (fun e2 => hbk (by have := congrArg Addr.block e2; first | exact this | exact this.symm)), Nat.zero_add,
        World.cell?_of_block (hg.block (g k) k4.lt (fun e2 => hgk (by injection e2))), k4.cell (by omega), k5 j y hy]
end

/-- Rows of numbers. -/
abbrev MtI := MtG (Value.int .i64) 48 3
/-- Rows of flags. -/
abbrev MtB := MtG Value.bool 74 4
theorem MtG.tab {w : World} {base : Nat} {v : Value} {T : List (List Int)} {g : Nat → Nat} (h : MtI w base v T g) : ∃ ao b cap, v = .slice ao T.length cap ∧ T.length ≤ cap ∧ cap ≤ 9223372036854775807 ∧ Tab .i64 w ao b 0 T := by
  obtain ⟨ao, b, cap, hv, h1, h2, h3⟩ := h.tabG
  exact ⟨ao, b, cap, hv, h1, h2, h3.int⟩
theorem MtG.tabB {w : World} {base : Nat} {v : Value} {T : List (List Bool)} {g : Nat → Nat} (h : MtB w base v T g) : ∃ ao b cap, v = .slice ao T.length cap ∧ T.length ≤ cap ∧ cap ≤ 9223372036854775807 ∧ TabB w ao b 0 T := by
  obtain ⟨ao, b, cap, hv, h1, h2, h3⟩ := h.tabG
  exact ⟨ao, b, cap, hv, h1, h2, h3.bool⟩
theorem eltR : Elt 30 48 (.slice none 0 0) 1 24 := ⟨Tryd.underlying30, by kernel_rfl, rfl, by decide, by decide⟩
theorem eltRB : Elt 69 74 (.slice none 0 0) 1 24 := ⟨Tryd.underlying69, by kernel_rfl, rfl, by decide, by decide⟩
theorem eltI : Elt 48 3 (.int .i64 0) 1 8 := ⟨Tryd.underlying48, by kernel_rfl, rfl, by decide, by decide⟩
theorem eltB : Elt 74 4 (.bool false) 1 1 := ⟨Tryd.underlying74, by kernel_rfl, rfl, by decide, by decide⟩
end Go.Proofs.YthncpnopplhlkaaDoor
