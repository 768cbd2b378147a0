/-
  Maps keyed by people: the keys' law, what a key reads as.
-/
import Derived.DeepKeys4
import Derived.Test.YtcjhenfofekofaaGreatDoorYEntry
import Derived.Test.YtcjhenfofekofaaGreatDoorJ2
namespace Go.Proofs.YtcjhenfofekofaaGreatDoor
open Go.RowKit Go.Maps Go.WideShapes

theorem Tryz.laidOut : laidOutB Tryz.prog = true := by kernel_rfl
theorem keyLawP : WideMaps.KeyLaw Tryz.prog 57 := deep_law_laid Tryz.laidOut (m := 2) (by omega) (of_decide_eq_true (by kernel_rfl)) (by kernel_rfl) (by kernel_rfl)
theorem keyP : Keyed Tryz.prog 57 := Keyed.of_law keyLawP
/-- The group of a person, as a value. -/
def gv (p : Per) : Value := .agg #[.int .i64 p.area, .int .i64 p.job, .int .i64 p.sex, .int .i64 0]
/-- .. as a key. -/
def kp (p : Per) : Lit := .string (keyBytes [.int .i64 p.area, .int .i64 p.job, .int .i64 p.sex, .int .i64 0])
theorem wf_small {n : Int} (h : 0 ≤ n ∧ n ≤ 1000) : (Lit.int .i64 n).wf = true := by
  have h1 : IntKind.i64.min = -9223372036854775808 := by decide
  have h2 : IntKind.i64.max = 9223372036854775807 := by decide
  show (decide (IntKind.i64.min ≤ n) && decide (n ≤ IntKind.i64.max)) = true
  rw [h1, h2]
  simp only [Bool.and_eq_true, decide_eq_true_eq]
  omega
theorem cellPer : Tryz.prog.cellsOf 57 = 4 := by kernel_rfl
theorem cellInt : Tryz.prog.cellsOf 3 = 1 := by kernel_rfl
theorem keyTypeP : Tryz.prog.keyType 57 = true := by kernel_rfl
theorem sizeT : ∃ m, Tryz.prog.types.size = m + 1 := ⟨Tryz.prog.types.size - 1, by have : 0 < Tryz.prog.types.size := of_decide_eq_true (by kernel_rfl); omega⟩
theorem keyOf_kp {p : Per} (h : PerOk p) : keyOf Tryz.prog 57 (gv p) = some (kp p) := by
  unfold PerOk at h
  have w0 := wf_small (n := p.area) (by omega)
  have w1 := wf_small (n := p.job) (by omega)
  have w2 := wf_small (n := p.sex) (by omega)
  have w3 := wf_small (n := 0) (by omega)
  obtain ⟨m, hm⟩ := sizeT
  unfold keyOf gv
  simp only [Tryz.underlying57]
  rw [if_pos (by simp [keyTypeP, Value.formed, Tryz.underlying57, cellPer]), hm]
  unfold Program.keyLits
  simp only [Tryz.underlying57, Value.cells]
  rw [if_pos ⟨by rw [cellPer]; rfl, by simp⟩]
  simp only [List.mapM_cons, List.mapM_nil]
  simp [Program.keyLits, cellInt, Tryz.underlying3, w0, w1, w2, w3, kp]
theorem kp_same (p q : Per) (hp : PerOk p) (hq : PerOk q) : kp p = kp q ↔ sameG p q = true := by
  constructor
  · intro e
    have h1 := keyOf_kp hp
    have h2 := keyOf_kp hq
    rw [e] at h1
    have h3 := keyP.inj h1 h2
    unfold gv at h3
    simp only [Value.agg.injEq, Array.mk.injEq, List.cons.injEq, Value.int.injEq, true_and, and_true] at h3
    exact decide_eq_true h3
  · intro e
    have h3 := of_decide_eq_true e
    unfold kp
    rw [h3.1, h3.2.1, h3.2.2]

end Go.Proofs.YtcjhenfofekofaaGreatDoor
