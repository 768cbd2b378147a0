/-
  Plain mathematics of texts: words with spaces between, lines, the texts of tables.
-/
import Derived.Lib.Join
import Derived.Lib.ItoaNum
namespace Go.TextMath
open Go.Lib (join joinTail decDigits)

theorem join_snoc (ws : List (List UInt8)) (x : List UInt8) (h : ws ≠ []) : join (ws ++ [x]) [32] = join ws [32] ++ (32 :: x) := by
  cases ws with
  | nil => exact absurd rfl h
  | cons y r =>
    rw [List.cons_append, Lib.join_cons, Lib.join_cons]
    simp [joinTail, List.append_assoc]

/-- A line. -/
def line (ws : List (List UInt8)) : List UInt8 := join ws [32] ++ [10]
/-- A number's word. -/
def word (n : Int) : List UInt8 := decDigits n.toNat
/-- A cell's word. -/
def cellW (n : Int) (b : Bool) : List UInt8 := if b then [120] else word n
/-- The words of a row, under a row of flags. -/
def rowW (ns : List Int) (hs : List Bool) : List (List UInt8) := ns.mapIdx fun j n => cellW n (hs.getD j false)
/-- The text of a table, under a mask. -/
def text (rs : List (List Int)) (ms : List (List Bool)) : List UInt8 := (rs.mapIdx fun i ns => line (rowW ns (ms.getD i []))).flatten

theorem text_snoc (rs : List (List Int)) (ns : List Int) (ms : List (List Bool)) : text (rs ++ [ns]) ms = text rs ms ++ line (rowW ns (ms.getD rs.length [])) := by
  unfold text
  rw [List.mapIdx_append]
  simp

theorem rowW_snoc (ns : List Int) (n : Int) (hs : List Bool) : rowW (ns ++ [n]) hs = rowW ns hs ++ [cellW n (hs.getD ns.length false)] := by
  unfold rowW
  rw [List.mapIdx_append]
  simp

theorem rowW_length (ns : List Int) (hs : List Bool) : (rowW ns hs).length = ns.length := by simp [rowW]

theorem rowW_none (ns : List Int) : rowW ns [] = ns.map word := by
  unfold rowW
  apply List.ext_getElem
  · simp
  · intro i h1 h2
    simp [cellW]

/-- Words and lines are short. -/
theorem word_short {n : Int} (h0 : 0 ≤ n) (h1 : n ≤ 1000000) : (word n).length ≤ 7 := by
  unfold word
  rw [Lib.decDigits_length]
  have hl : n.toNat < 10000000 := by omega
  generalize n.toNat = u at hl
  rcases Nat.lt_or_ge u 10 with h | h
  · rw [Lib.nDigits_small h]; omega
  · have key : ∀ (k : Nat) (u : Nat), u < 10 ^ (k + 1) → Lib.nDigits u ≤ k + 1 := by
      intro k
      induction k with
      | zero => intro u hu; rw [Lib.nDigits_small (by simpa using hu)]; omega
      | succ k ih =>
        intro u hu
        by_cases hs : u < 10
        · rw [Lib.nDigits_small hs]; omega
        · rw [Lib.nDigits_big hs]
          have := ih (u / 10) (by rw [Nat.pow_succ] at hu; omega)
          omega
    exact key 6 u (by simpa using hl)

/-- Lists that are a table. -/
def tvB (rs : List (List Int)) : Bool := decide (1 ≤ rs.length ∧ rs.length ≤ 4 ∧ 1 ≤ (rs.getD 0 []).length ∧ (rs.getD 0 []).length ≤ 4 ∧
  ∀ i, i < rs.length → (rs.getD i []).length = (rs.getD 0 []).length ∧ ∀ j, j < (rs.getD i []).length → 0 ≤ (rs.getD i []).getD j 0 ∧ (rs.getD i []).getD j 0 ≤ 99)
/-- Lists that are a mask of a table. -/
def mvB (rs : List (List Int)) (ms : List (List Bool)) : Bool := tvB rs && decide (ms.length = rs.length ∧ ∀ i, i < ms.length → (ms.getD i []).length = (rs.getD 0 []).length)

end Go.TextMath
