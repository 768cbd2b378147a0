/-
  People as an argument: from what it reads as, to what a walk asks of it.
-/
import Derived.Test.YtgnmfbgoacfjeaaDoorPers
import Derived.Test.YtgnmfbgoacfjeaaDoorOpen
namespace Go.Proofs.YtgnmfbgoacfjeaaDoor
open Go.RowKit Go.Deep Go.WideShapes Go.ChangeShapes

section
variable {H : Type} {enc : TypeId × Value → H} {w : World} {held : Bool}
set_option maxRecDepth 100000 in
theorem open_ppl {fuel : Nat} {a : Option Addr} {len cap : Nat} {x : DataW H × List MemPlace} (h : DataW.trod enc Tryd.prog w 0 (fun _ => true) held fuel 22 [.slice a len cap] = some x) :
    ∃ (b off : Nat) (L : List Per), len = L.length ∧ (len ≤ cap ∧ cap ≤ 9223372036854775807) ∧ Ppl w a b off L := by
  have ce : Tryd.prog.cellsOf 59 = 4 := by kernel_rfl
  have ci : Tryd.prog.cellsOf 3 = 1 := by kernel_rfl
  rcases open_slice Tryd.underlying22 h with ⟨hcs, _⟩ | ⟨x, l, c, m, n, D, Pl, hcs, _, hl, hm, hmm, _, hx⟩
  · simp only [List.cons.injEq, Value.slice.injEq, and_true] at hcs
    obtain ⟨rfl, rfl, rfl⟩ := hcs
    exact ⟨0, 0, [], rfl, ⟨Nat.le_refl _, by omega⟩, fun h => absurd h (by simp), fun i hi => absurd hi (by simp)⟩
  · simp only [List.cons.injEq, Value.slice.injEq, and_true] at hcs
    obtain ⟨rfl, rfl, rfl⟩ := hcs
    simp only [if_true] at hmm
    obtain ⟨b, off, spot⟩ := x
    have each : ∀ i, i < len → ∃ p : Per, w.cell? ((⟨b, off, spot⟩ : Addr).add (i * 4)) = some (.int .i64 p.area) ∧ PerAt w b (off + i * 4) p := fun i hi => by
      obtain ⟨cs', h1, h2⟩ := hx i (by omega)
      rw [ce] at h1
      obtain ⟨_, hlen, hcell⟩ := World.cells?_some h1
      obtain ⟨xs, k, hk, hxy, _, hxl, hf⟩ := DataW.trod_struct Tryd.underlying59 h2
      match cs', hlen with
      | [v0, v1, v2, v3], _ =>
        have g0 := hf 0 _ rfl
        have g1 := hf 1 _ rfl
        have g2 := hf 2 _ rfl
        have g3 := hf 3 _ rfl
        simp [ci] at g0 g1 g2 g3
        obtain ⟨y0, k0⟩ := Option.isSome_iff_exists.1 (show (xs[0]?).isSome = true by simp [hxl])
        obtain ⟨y1, k1⟩ := Option.isSome_iff_exists.1 (show (xs[1]?).isSome = true by simp [hxl])
        obtain ⟨y2, k2⟩ := Option.isSome_iff_exists.1 (show (xs[2]?).isSome = true by simp [hxl])
        obtain ⟨y3, k3⟩ := Option.isSome_iff_exists.1 (show (xs[3]?).isSome = true by simp [hxl])
        obtain ⟨n0, e0, _⟩ := DataW.trod_int Tryd.underlying3 (g0.trans k0)
        obtain ⟨n1, e1, _⟩ := DataW.trod_int Tryd.underlying3 (g1.trans k1)
        obtain ⟨n2, e2, _⟩ := DataW.trod_int Tryd.underlying3 (g2.trans k2)
        obtain ⟨n3, e3, _⟩ := DataW.trod_int Tryd.underlying3 (g3.trans k3)
        simp only [List.cons.injEq, and_true] at e0 e1 e2 e3
        subst e0; subst e1; subst e2; subst e3
        have z0 := hcell 0 (by omega)
        have z1 := hcell 1 (by omega)
        have z2 := hcell 2 (by omega)
        have z3 := hcell 3 (by omega)
        rw [Go.Deep.add_add] at z0 z1 z2 z3
        have w0 := z0
        rw [addr_at z0] at z0
        rw [addr_at z1] at z1
        rw [addr_at z2] at z2
        rw [addr_at z3] at z3
        exact ⟨⟨n0, n1, n2, n3⟩, by simpa using w0, by simpa using z0, by simpa [Nat.add_assoc] using z1, by simpa [Nat.add_assoc] using z2, by simpa [Nat.add_assoc] using z3⟩
    have hin : Inhabited Per := ⟨per0⟩
    obtain ⟨f, hf⟩ := choose_lt each
    have hlen : len = ((List.range len).map f).length := by simp
    have hget : ∀ i, i < len → ((List.range len).map f).getD i per0 = f i := fun i hi => by simp [List.getD_eq_getElem?_getD, hi]
    refine ⟨b, off, (List.range len).map f, hlen, ⟨hl, by unfold maxLen at hm; omega⟩, fun h0 => ?_, fun i hi => ?_⟩
    · rw [← hlen] at h0
      have := (hf 0 (by omega)).1
      rw [Nat.zero_mul] at this
      rw [addr_0 this]
    · rw [← hlen] at hi
      rw [hget i hi]
      exact (hf i hi).2
end
end Go.Proofs.YtgnmfbgoacfjeaaDoor
