/-
  What the walks of this seat share: endings, small facts on numbers.
-/
import Derived.Test.YthncpnopplhlkaaDoorRows
import Derived.WalkKit
import Derived.WalkLawsBesides
import Derived.WalkSmall
import Derived.Outline
import Derived.Deep.LoopGhost
import Derived.Deep.OwnRows
import Derived.Deep.Light
import Derived.Lib.Hide
import Derived.Deep.QuietTactic
import Derived.BigQuiet
namespace Go.Proofs.YthncpnopplhlkaaDoor
open Go.RowKit

theorem ret_bool {a b : Bool} (h : a = b) : Ending.returned (.bool a) = Ending.returned (.bool b) := by rw [h]
theorem ret_int {a b : Int} (h : a = b) : Ending.returned (.int .i64 a) = Ending.returned (.int .i64 b) := by rw [h]
theorem int_eq {a b : Int} (h : a = b) : Value.int .i64 a = .int .i64 b := by rw [h]

theorem Tryd.info3 : (Tryd.prog.info? 3).map (fun i => (i.zero, i.size, i.bytes)) = some (some (.int .i64 0), 1, 8) := by kernel_rfl


/-- What a slice's elements are: whatever its address is where it has none. -/
def Row (k : IntKind) (w : World) (ao : Option Addr) (b off : Nat) (xs : List Int) : Prop :=
  (0 < xs.length → ao = some ⟨b, off, none⟩) ∧ ∀ i, i < xs.length → w.cell? ⟨b, off + i, none⟩ = some (.int k (xs.getD i 0))

theorem Row.keep {k : IntKind} {w w' : World} {ao : Option Addr} {b off : Nat} {xs : List Int} (h : Row k w ao b off xs) {B : Nat} (hb : Below B w w') (hB : w.heap.size ≤ B) : Row k w' ao b off xs :=
  ⟨h.1, fun i hi => by
    have h0 := h.2 i hi
    have hlt := World.block_lt_of_cell? _ _ h0
    rw [hb.cell (p := ⟨b, off + i, none⟩) (Nat.lt_of_lt_of_le hlt hB)]; exact h0⟩
/-- The same below a block that the row lies below. -/
theorem Row.keepB {k : IntKind} {w w' : World} {ao : Option Addr} {b off : Nat} {xs : List Int} (h : Row k w ao b off xs) {B : Nat} (hb : Below B w w') (hB : b < B) : Row k w' ao b off xs :=
  ⟨h.1, fun i hi => by rw [hb.cell (p := ⟨b, off + i, none⟩) hB]; exact h.2 i hi⟩
theorem Row.drewN {k : IntKind} {w : World} {ao : Option Addr} {b off : Nat} {xs : List Int} (h : Row k w ao b off xs) (q : Nat) : Row k (w.drewN q) ao b off xs := h
theorem Row.of_rowIs {k : IntKind} {w : World} {b t : Nat} {xs : List Int} (h : w.rowIs b t xs.length (fun i => .int k (xs.getD i 0))) : Row k w (some ⟨b, 0, none⟩) b 0 xs :=
  ⟨fun _ => rfl, fun i hi => by rw [Nat.zero_add]; exact h.cell hi⟩
theorem getD_take {xs : List Int} {m i : Nat} (h : i < m) : (xs.take m).getD i 0 = xs.getD i 0 := by
  simp only [List.getD_eq_getElem?_getD]; rw [List.getElem?_take_of_lt h]
theorem Row.take {k : IntKind} {w : World} {ao : Option Addr} {b off : Nat} {xs : List Int} (h : Row k w ao b off xs) (m : Nat) : Row k w ao b off (xs.take m) := by
  refine ⟨fun h0 => h.1 (by rw [List.length_take] at h0; omega), fun i hi => ?_⟩
  rw [List.length_take] at hi
  rw [getD_take (by omega)]
  exact h.2 i (by omega)
theorem Row.nil {k : IntKind} {w : World} {ao : Option Addr} {b off : Nat} : Row k w ao b off [] := ⟨fun h => absurd h (by simp), fun i hi => absurd hi (by simp)⟩

/-- A slice of integers that came in, as the proofs' frames hand it over. -/
def IsRow (k : IntKind) (w : World) (a : Option Addr) (len cap : Nat) (zs : List Int) : Prop :=
  (a = none ∧ len = 0 ∧ cap = 0 ∧ zs = []) ∨
  ∃ x, a = some x ∧ len ≤ cap ∧ cap ≤ maxLen ∧ zs.length = cap ∧ (∀ i, i < zs.length → w.cell? (x.add i) = some (.int k (zs.getD i 0))) ∧ ∀ n ∈ zs, (Lit.int k n).wf = true

/-- Its elements, by block and offset. -/
theorem IsRow.elems {k : IntKind} {w : World} {a : Option Addr} {len cap : Nat} {zs : List Int} (h : IsRow k w a len cap zs) :
    ∃ (b off : Nat) (xs : List Int), len = xs.length ∧ (len ≤ cap ∧ cap ≤ 9223372036854775807) ∧ Row k w a b off xs ∧ ∀ i, i < xs.length → (Lit.int k (xs.getD i 0)).wf = true := by
  rcases h with ⟨rfl, rfl, rfl, rfl⟩ | ⟨⟨b, off, spot⟩, rfl, hl, hm, hz, hc, hw⟩
  · exact ⟨0, 0, [], rfl, ⟨by omega, by omega⟩, Row.nil, fun i hi => absurd hi (by simp)⟩
  · have hlen : len = (zs.take len).length := by rw [List.length_take]; omega
    have hget : ∀ i, i < len → (zs.take len).getD i 0 = zs.getD i 0 := fun i hi => by
      simp only [List.getD_eq_getElem?_getD]; rw [List.getElem?_take_of_lt hi]
    have hadd : ∀ i, i < len → (⟨b, off, spot⟩ : Addr).add i = ⟨b, off + i, none⟩ ∧ spot = none := fun i hi => by
      have h0 := hc 0 (by omega)
      have hs := World.cell?_spot h0
      have hs2 : spot = none := by simpa [Addr.add] using hs
      subst hs2
      simp [Addr.add]
    refine ⟨b, off, zs.take len, hlen, ⟨hl, by unfold maxLen at hm; omega⟩, ⟨fun h => ?_, fun i hi => ?_⟩, fun i hi => ?_⟩
    · rw [← hlen] at h; rw [(hadd 0 h).2]
    · rw [← hlen] at hi; rw [hget i hi, ← (hadd i hi).1]; exact hc i (by omega)
    · rw [← hlen] at hi; rw [hget i hi]
      have hi2 : i < zs.length := by omega
      exact hw _ (by rw [List.getD_eq_getElem?_getD, List.getElem?_eq_getElem hi2]; exact List.getElem_mem hi2)

theorem add_none (b off j : Nat) : (⟨b, off, none⟩ : Addr).add j = ⟨b, off + j, none⟩ := by unfold Addr.add; split <;> simp_all

theorem getD_at {xs : List Int} {k : Nat} (h : k < xs.length) : xs.getD k 0 = xs[k] := by simp [List.getD_eq_getElem?_getD, List.getElem?_eq_getElem h]

theorem results_tmp4 {fn : Func} {t u v x : Tmp} (h : fn.results = #[.tmp t, .tmp u, .tmp v, .tmp x]) (tmps : Array Value) (P : Program) (w : World) :
    (results fn tmps).run P w = .ok (.tuple #[tmps.getD t undef, tmps.getD u undef, tmps.getD v undef, tmps.getD x undef]) w := by simp [results, h]

theorem quiet_add_left {P : Program} {f : FuncId} {args : Array Value} {w : World} {a n : Nat} {v : Value}
    (h : Calls P f args (w.drewN (a + n)) fun e w' => e = .returned v ∧ w.drewN (a + n) = w') :
    Calls P f args (w.drewN (a + n)) fun e w'' => e = .returned v ∧ ∃ m, w'' = w.drewN (a + m) :=
  h.mono fun _ _ ⟨he, hm⟩ => ⟨he, n, hm.symm⟩
theorem quiet_left {P : Program} {f : FuncId} {args : Array Value} {w : World} {n : Nat} {v : Value}
    (h : Calls P f args (w.drewN n) fun e w' => e = .returned v ∧ w.drewN n = w') : Calls P f args (w.drewN n) fun e w'' => e = .returned v ∧ ∃ m, w'' = w.drewN m :=
  h.mono fun _ _ ⟨he, hm⟩ => ⟨he, n, hm.symm⟩
theorem quiet_add {P : Program} {f : FuncId} {args : Array Value} {w : World} {a n : Nat} {v : Value}
    (h : Calls P f args (w.drewN (a + n)) fun e w' => e = .returned v ∧ ∃ m, w' = (w.drewN (a + n)).drewN m) :
    Calls P f args (w.drewN (a + n)) fun e w'' => e = .returned v ∧ ∃ m, w'' = w.drewN (a + m) :=
  h.mono fun _ _ ⟨he, m, hm⟩ => ⟨he, n + m, by rw [hm, World.drewN_drewN, Nat.add_assoc]⟩
theorem below_drewN {B : Nat} {a w : World} (h : Below B a w) (n : Nat) : Below B a (w.drewN n) := ⟨h.os, h.tape, h.output, h.size, h.block⟩
theorem rowIs_drewN {w : World} {b : Nat} {t : TypeId} {n : Nat} {f : Nat → Value} (h : w.rowIs b t n f) (k : Nat) : (w.drewN k).rowIs b t n f := h
theorem below_draws (w : World) (n : Nat) : Below w.heap.size w (w.drewN n) := below_drewN (Below.refl _ _) n

end Go.Proofs.YthncpnopplhlkaaDoor
