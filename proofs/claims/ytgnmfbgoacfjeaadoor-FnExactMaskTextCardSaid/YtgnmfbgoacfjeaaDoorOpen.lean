/-
  From what an argument reads as, to what a walk asks of it: slices of slices of numbers, of flags.
-/
import Derived.Test.YtgnmfbgoacfjeaaDoorTabB
import Derived.Deep.Matrix
import Derived.Deep.Grids
import Derived.ProofKit
namespace Go.Proofs.YtgnmfbgoacfjeaaDoor
open Go.RowKit Go.Deep Go.WideShapes Go.ChangeShapes

theorem addr_0 {w : World} {b off : Nat} {spot : Option Nat} {v : Value} (h : w.cell? ((⟨b, off, spot⟩ : Addr).add 0) = some v) : spot = none := by
  have hs := World.cell?_spot h
  simpa [Addr.add] using hs
theorem addr_at {w : World} {b off i : Nat} {spot : Option Nat} {v : Value} (h : w.cell? ((⟨b, off, spot⟩ : Addr).add i) = some v) : (⟨b, off, spot⟩ : Addr).add i = ⟨b, off + i, none⟩ := by
  have hs := World.cell?_spot h
  unfold Addr.add at hs ⊢
  split at hs
  · next h0 =>
    have : spot = none := hs
    subst this
    rw [if_pos h0, h0, Nat.add_zero]
  · next h0 => rw [if_neg h0]

section
variable {H : Type} {enc : TypeId × Value → H} {w : World} {held : Bool}
theorem open_tab {fuel : Nat} {a : Option Addr} {len cap : Nat} {x : DataW H × List MemPlace} (h : DataW.trod enc Tryd.prog w 0 (fun _ => true) held fuel 32 [.slice a len cap] = some x) :
    ∃ (b off : Nat) (T : List (List Int)), len = T.length ∧ (len ≤ cap ∧ cap ≤ 9223372036854775807) ∧ Tab .i64 w a b off T := by
  rcases open_int_rows Tryd.underlying32 Tryd.underlying46 Tryd.underlying3 (by kernel_rfl) (by kernel_rfl) h with ⟨hcs, _⟩ | ⟨x, l, c, A, L, C, Z, hcs, _, hl, hm, _, hr⟩
  · simp only [List.cons.injEq, Value.slice.injEq, and_true] at hcs
    obtain ⟨rfl, rfl, rfl⟩ := hcs
    exact ⟨0, 0, [], rfl, ⟨Nat.le_refl _, by omega⟩, fun h => absurd h (by simp), fun i hi => absurd hi (by simp)⟩
  · simp only [List.cons.injEq, Value.slice.injEq, and_true] at hcs
    obtain ⟨rfl, rfl, rfl⟩ := hcs
    obtain ⟨b, off, spot⟩ := x
    have each : ∀ r, r < len → ∃ y : Nat × Nat × List Int, L r = y.2.2.length ∧ Row .i64 w (A r) y.1 y.2.1 y.2.2 ∧ L r ≤ C r ∧ C r ≤ 9223372036854775807 := fun r hr1 => by
      obtain ⟨h1, h2, h3, h4, h5, h6, h7⟩ := hr r (by omega)
      have : IsRow .i64 w (A r) (L r) (C r) (Z r) := by
        cases hA : A r with
        | none =>
          have hc := h6 hA
          refine .inl ⟨rfl, by omega, hc, ?_⟩
          exact List.length_eq_zero_iff.1 (by rw [h4]; exact hc)
        | some a' =>
          exact .inr ⟨a', rfl, h2, h3, h4, fun i hi => (h7 a' hA).2 i (by omega), h5⟩
      obtain ⟨b', o', xs, e1, e2, e3, _⟩ := this.elems
      exact ⟨(b', o', xs), e1, e3, e2.1, e2.2⟩
    obtain ⟨f, hf⟩ := choose_lt each
    have hlen : len = ((List.range len).map fun r => (f r).2.2).length := by simp
    have hget : ∀ i, i < len → ((List.range len).map fun r => (f r).2.2).getD i [] = (f i).2.2 := fun i hi => by simp [List.getD_eq_getElem?_getD, hi]
    refine ⟨b, off, (List.range len).map fun r => (f r).2.2, hlen, ⟨hl, by unfold maxLen at hm; omega⟩, fun h0 => ?_, fun i hi => ?_⟩
    · rw [← hlen] at h0
      rw [addr_0 (hr 0 (by omega)).1]
    · rw [← hlen] at hi
      rw [hget i hi]
      obtain ⟨g1, g2, g3, g4⟩ := hf i hi
      have h1 := (hr i (by omega)).1
      rw [addr_at h1] at h1
      exact ⟨A i, (f i).1, (f i).2.1, C i, by rw [h1, g1], g2, by omega, g4⟩
theorem open_tabB {fuel : Nat} {a : Option Addr} {len cap : Nat} {x : DataW H × List MemPlace} (h : DataW.trod enc Tryd.prog w 0 (fun _ => true) held fuel 42 [.slice a len cap] = some x) :
    ∃ (b off : Nat) (M : List (List Bool)), len = M.length ∧ (len ≤ cap ∧ cap ≤ 9223372036854775807) ∧ TabB w a b off M := by
  rcases open_bool_rows Tryd.underlying42 Tryd.underlying47 Tryd.underlying4 (by kernel_rfl) (by kernel_rfl) h with ⟨hcs, _⟩ | ⟨x, l, c, A, L, C, Z, hcs, _, hl, hm, _, hr⟩
  · simp only [List.cons.injEq, Value.slice.injEq, and_true] at hcs
    obtain ⟨rfl, rfl, rfl⟩ := hcs
    exact ⟨0, 0, [], rfl, ⟨Nat.le_refl _, by omega⟩, fun h => absurd h (by simp), fun i hi => absurd hi (by simp)⟩
  · simp only [List.cons.injEq, Value.slice.injEq, and_true] at hcs
    obtain ⟨rfl, rfl, rfl⟩ := hcs
    obtain ⟨b, off, spot⟩ := x
    have each : ∀ r, r < len → ∃ y : Nat × Nat × List Bool, L r = y.2.2.length ∧ RowB w (A r) y.1 y.2.1 y.2.2 ∧ L r ≤ C r ∧ C r ≤ 9223372036854775807 := fun r hr1 => by
      obtain ⟨h1, h2, h3, h6, h7⟩ := hr r (by omega)
      unfold maxLen at h3
      cases hA : A r with
      | none =>
        have hc := h6 hA
        exact ⟨(0, 0, []), by simp; omega, ⟨fun h => absurd h (by simp), fun i hi => absurd hi (by simp)⟩, h2, h3⟩
      | some a' =>
        obtain ⟨b', o', sp⟩ := a'
        have hc := (h7 _ hA).2
        have hlen : L r = ((List.range (L r)).map (Z r)).length := by simp
        have hget : ∀ i, i < L r → ((List.range (L r)).map (Z r)).getD i false = Z r i := fun i hi => by simp [List.getD_eq_getElem?_getD, hi]
        refine ⟨(b', o', (List.range (L r)).map (Z r)), hlen, ⟨fun h0 => ?_, fun i hi => ?_⟩, h2, h3⟩
        · rw [← hlen] at h0
          rw [addr_0 (hc 0 (by omega))]
        · rw [← hlen] at hi
          have := hc i (by omega)
          rw [addr_at this] at this
          rw [hget i hi]; exact this
    obtain ⟨f, hf⟩ := choose_lt each
    have hlen : len = ((List.range len).map fun r => (f r).2.2).length := by simp
    have hget : ∀ i, i < len → ((List.range len).map fun r => (f r).2.2).getD i [] = (f i).2.2 := fun i hi => by simp [List.getD_eq_getElem?_getD, hi]
    refine ⟨b, off, (List.range len).map fun r => (f r).2.2, hlen, ⟨hl, by unfold maxLen at hm; omega⟩, fun h0 => ?_, fun i hi => ?_⟩
    · rw [← hlen] at h0
      rw [addr_0 (hr 0 (by omega)).1]
    · rw [← hlen] at hi
      rw [hget i hi]
      obtain ⟨g1, g2, g3, g4⟩ := hf i hi
      have h1 := (hr i (by omega)).1
      rw [addr_at h1] at h1
      exact ⟨A i, (f i).1, (f i).2.1, C i, by rw [h1, g1], g2, by omega, g4⟩
end
end Go.Proofs.YtgnmfbgoacfjeaaDoor
