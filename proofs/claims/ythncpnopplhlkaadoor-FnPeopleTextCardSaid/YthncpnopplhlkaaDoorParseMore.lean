/-
  Plain mathematics of reading texts, more: a text without its last byte, or with one more, is no table's.
-/
import Derived.Test.YthncpnopplhlkaaDoorParse
namespace Go.ParseMath
open Go.Lib (join joinTail decDigits)
open Go.TextMath

theorem lineOf_ne {r : List Int} (h : 1 ≤ r.length) : lineOf r ≠ [] := by
  unfold lineOf
  cases r with
  | nil => simp at h
  | cons a r =>
    rw [List.map_cons, Lib.join_cons]
    intro e
    have h1 := (List.append_eq_nil_iff.1 e).1
    have h2 : (decDigits a.toNat).length = 0 := by
      show (word a).length = 0
      rw [h1]; rfl
    rw [Lib.decDigits_length] at h2
    have := Lib.nDigits_pos a.toNat
    omega
theorem tf_last {s : List UInt8} (h : tfB s = true) : ∃ u, s = u ++ [10] := by
  obtain ⟨h1, h2, _, _⟩ := tf_t h
  obtain ⟨u, hu⟩ := text_last (tvB_okT h1).1
  exact ⟨u, by rw [← h2, hu]⟩
/-- Without its last byte. -/
theorem tf_short {u : List UInt8} (h : tfB (u ++ [10]) = true) : tfB u = false := by
  rw [Bool.eq_false_iff]
  intro h2
  obtain ⟨a1, a2, _, _⟩ := tf_t h
  obtain ⟨b1, b2, _, _⟩ := tf_t h2
  have c1 := cut_text (rowsS (u ++ [10]))
  have c2 := cut_text (rowsS u)
  rw [a2, cutL_snoc] at c1
  rw [b2] at c2
  have c3 := List.append_cancel_right c1
  rw [c2] at c3
  have hm : ([] : List UInt8) ∈ (rowsS (u ++ [10])).map lineOf := by rw [← c3]; simp
  obtain ⟨r, hr, he⟩ := List.mem_map.1 hm
  exact lineOf_ne ((tvB_okT a1).2.2.1 r hr).1 he
/-- With another byte behind. -/
theorem tf_long {s : List UInt8} {c : UInt8} (hc : c ≠ 10) : tfB (s ++ [c]) = false := by
  rw [Bool.eq_false_iff]
  intro h
  obtain ⟨u, hu⟩ := tf_last h
  have := List.append_inj_right' hu rfl
  simp at this
  exact hc this
end Go.ParseMath
