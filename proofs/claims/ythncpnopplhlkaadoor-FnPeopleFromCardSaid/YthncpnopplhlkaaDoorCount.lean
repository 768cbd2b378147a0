/-
  Counting a byte in a string, byte by byte.
-/
import Derived.Test.YthncpnopplhlkaaDoorBase
namespace Go.Proofs.YthncpnopplhlkaaDoor
open Go.RowKit

theorem bget (S : ByteArray) {j : Nat} (h : j < S.size) : S.data.toList[j]? = some (S[j]'h) := by
  have h1 : j < S.data.toList.length := by rw [Array.length_toList]; exact h
  rw [List.getElem?_eq_getElem h1]
  rfl
theorem count_step (S : ByteArray) (c : UInt8) {j : Nat} (h : j < S.size) : (S.data.toList.take (j + 1)).count c = (S.data.toList.take j).count c + if S[j]'h = c then 1 else 0 := by
  rw [List.take_add_one, bget S h, List.count_append]
  congr 1
  simp [List.count_cons, beq_iff_eq]
theorem count_le (S : ByteArray) (c : UInt8) (j : Nat) : (S.data.toList.take j).count c ≤ j :=
  Nat.le_trans List.count_le_length (by rw [List.length_take]; omega)
theorem count_all (S : ByteArray) (c : UInt8) : (S.data.toList.take S.size).count c = S.data.toList.count c := by
  rw [List.take_of_length_le (by rw [Array.length_toList]; exact Nat.le_refl _)]
theorem byte_yes {x c : UInt8} {n : Nat} (hc : c.toNat = n) (h : x = c) : ((x.toNat : Int) == (n : Int)) = true := by
  subst h; subst hc; simp
theorem byte_no {x c : UInt8} {n : Nat} (hc : c.toNat = n) (h : x ≠ c) : ((x.toNat : Int) == (n : Int)) = false := by
  rw [beq_eq_false_iff_ne]
  intro e
  have : x.toNat = c.toNat := by omega
  exact h (UInt8.toNat_inj.1 this)
end Go.Proofs.YthncpnopplhlkaaDoor
