/-
  Contracts: impl.AskRank at valid questions; parts of drawn questions.
-/
import Derived.Test.YtjglikccikeejabAskI
import Derived.Test.YtjglikccikeejabDrawL
import Derived.Test.YtjglikccikeejabAskS2
import Derived.Test.YtjglikccikeejabVldMore
namespace Go.Proofs.Ytjglikccikeejab
open Go.RowKit
open Go.AskMath (rnk tel tld)

theorem askRankV (m r : Nat) (ao : Option Addr) (b off cap : Nat) (xs : List Int) (w : World) (hr : Row .i64 w ao b off xs) (hv : vldB m xs = true) (he : rnk m xs = r) :
    Calls Try.prog 19 #[.int .i64 m, .slice ao xs.length cap] w fun e w' => e = .returned (.int .i64 r) ∧ Below w.heap.size w w' := by
  have h := askRankI m ao b off cap xs w hr (by have := (vld_iff.1 hv).2.2.1; omega)
  rw [hv, if_pos rfl] at h
  simp only [Int.toNat_natCast, he] at h
  exact h

theorem askToldV (m t : Nat) (ao : Option Addr) (b off cap : Nat) (xs : List Int) (w : World) (hr : Row .i64 w ao b off xs) (hn : ao = none → cap = 0) (hv : vldB m xs = true) (he : tld m xs m = t) :
    Calls Try.prog 21 #[.int .i64 m, .slice ao xs.length cap] w fun e w' => e = .returned (.int .i64 t) ∧ Below w.heap.size w w' := by
  have h := askToldI m ao b off cap xs w hr hn (by have := (vld_iff.1 hv).2.2.1; omega)
  rw [hv, if_pos rfl] at h
  simp only [Int.toNat_natCast, he] at h
  exact h

theorem rowL (w : World) (c : List Int) : Row .i64 (w.alloc (.cells (c.map (Value.int .i64)).toArray 3)) (some ⟨w.heap.size, 0, none⟩) w.heap.size 0 c :=
  ⟨fun _ => rfl, fun i hi => by
    rw [Nat.zero_add, World.cell?_alloc_new]
    simp [List.getD_eq_getElem?_getD, List.getElem?_eq_getElem hi]⟩

theorem unit_range {m K : Nat} (hm : m ≤ 6) (hK : K < m) : 1 ≤ (2 : Int) ^ K ∧ (2 : Int) ^ K < 2 ^ (m : Int).toNat := by
  rw [Int.toNat_natCast]
  have h0 : (0 : Int) < 2 ^ K := Int.pow_pos (by decide)
  have h1 := pow_le (a := 2) (k := K + 1) (n := m) (by decide) (by omega)
  rw [Int.pow_succ] at h1
  omega

theorem vld_units {m k : Nat} (hm1 : 1 ≤ m) (hm6 : m ≤ 6) (hk : k ≤ m) : vldB m ((List.range k).map Go.AskMath.unit) = true := by
  refine vld_iff.2 ⟨by omega, by omega, by simp; omega, fun q hq => ?_⟩
  obtain ⟨i, hi, rfl⟩ := List.mem_map.1 hq
  exact unit_range hm6 (by have := List.mem_range.1 hi; omega)

theorem units_take {m k : Nat} (hk : k ≤ m) : ((List.range m).map Go.AskMath.unit).take k = (List.range k).map Go.AskMath.unit := by
  rw [← List.map_take, List.take_range, Nat.min_eq_left hk]

end Go.Proofs.Ytjglikccikeejab
