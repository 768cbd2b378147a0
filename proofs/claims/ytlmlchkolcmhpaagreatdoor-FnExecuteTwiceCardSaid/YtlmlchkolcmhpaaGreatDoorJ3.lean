/-
  Joined: GrowM, ExecM, Want, ErrL, ErrLaid, Hand, PickA, DrawTab, DrawTT, PersE, DrawPer, OwnOnly, DrawPpl, Line, ExecL, ExecS, RangeC.
-/
import Derived.Test.YtlmlchkolcmhpaaGreatDoorJ2
import Derived.Maps.OwnSet
import Derived.Test.YtlmlchkolcmhpaaGreatDoorJ1
import Derived.Test.YtlmlchkolcmhpaaGreatDoorYShelf
import Derived.Lib.AtoiErrMem
import Derived.Lib.LaidTab
import Derived.Stop.LaidErr
import Derived.MakeChecks
import Derived.LaidHandle
import Derived.HandedShaped
import Derived.Shelf.Vars
import Derived.Deep.DeepCutAuto
import Derived.Deep.RegionWith
import Derived.Deep.RegionHeld3
import Derived.IntWalk
import Derived.Maps.OwnOps
import Derived.StringKeys
import Derived.RangeFuncWrites
import Derived.RangeFuncNested
import Derived.RangeFuncBox

section
/-
  Plain mathematics of patterns: bounds of hidden cells, cells that are not safe, the cheapest rectangle, growing until all are safe.
-/
namespace Go.Proofs.YtlmlchkolcmhpaaGreatDoor
open Go.RowKit
open Go.TextMath (tvB mvB)
open Go.FlowMath (ext)

def flagM (M : List (List Bool)) (i j : Nat) : Bool := (M.getD i []).getD j false
def lensT {α : Type} (T : List (List α)) : List Nat := T.map List.length
/-- The extreme values of a cell. -/
noncomputable def extM (T : List (List Int)) (M : List (List Bool)) (i j : Nat) (raise : Bool) : Int := ext T.length (T.getD 0 []).length i j (flagM M) (cellT T) raise
noncomputable def highM (T : List (List Int)) (M : List (List Bool)) (i j : Nat) : Int := if flagM M i j then extM T M i j true else cellT T i j
noncomputable def lowM (T : List (List Int)) (M : List (List Bool)) (i j : Nat) : Int := if flagM M i j then max 0 (extM T M i j false) else cellT T i j
noncomputable def safeM (T : List (List Int)) (M : List (List Bool)) (n : Int) (i j : Nat) : Bool := decide (cellT T i j + n ≤ highM T M i j ∧ lowM T M i j ≤ max 0 (cellT T i j - n))
noncomputable def badM (T : List (List Int)) (F M : List (List Bool)) (n : Int) (x : Nat × Nat) : Bool := flagM F x.1 x.2 && !(flagM M x.1 x.2 && safeM T M n x.1 x.2)
noncomputable def badsM (T : List (List Int)) (F M : List (List Bool)) (n : Int) : List (Nat × Nat) := (poss (lensT T)).filter (badM T F M n)
def cellB (n : Int) : Bool := decide (0 ≤ n ∧ n ≤ 99)
noncomputable def needM (T : List (List Int)) (F M : List (List Bool)) (n : Int) : Int := if mvB T F && (mvB T M && cellB n) then (badsM T F M n).length else -1

/-- What a cell costs that is not set. -/
def costC (T : List (List Int)) (M : List (List Bool)) (i j : Nat) : Int := if flagM M i j then 0 else cellT T i j
def costM (T : List (List Int)) (M : List (List Bool)) (i j k l : Nat) : Int := costC T M i j + costC T M i l + costC T M k j + costC T M k l
def openM (M : List (List Bool)) (i j k l : Nat) : Bool := !(flagM M i j && flagM M i l && flagM M k j && flagM M k l)
/-- The cheapest rectangle till now: its cost, or -1; its row and column. -/
def sqN (T : List (List Int)) (M : List (List Bool)) (i j : Nat) (st : Int × Nat × Nat) (x : Nat × Nat) : Int × Nat × Nat :=
  if x.1 = i ∨ x.2 = j then st else if openM M i j x.1 x.2 = true ∧ (st.1 < 0 ∨ costM T M i j x.1 x.2 < st.1) then (costM T M i j x.1 x.2, x.1, x.2) else st
def sqM (T : List (List Int)) (M : List (List Bool)) (i j : Nat) (pre : List (Nat × Nat)) : Int × Nat × Nat := pre.foldl (sqN T M i j) (-1, 0, 0)
theorem sqM_snoc (T : List (List Int)) (M : List (List Bool)) (i j : Nat) (pre : List (Nat × Nat)) (x : Nat × Nat) : sqM T M i j (pre ++ [x]) = sqN T M i j (sqM T M i j pre) x := by
  unfold sqM
  rw [List.foldl_append]
  rfl
/-- Four cells set. -/
def setM (M : List (List Bool)) (i j k l : Nat) : List (List Bool) := putC (putC (putC (putC M i j true) i l true) k j true) k l true
def squareM (T : List (List Int)) (M : List (List Bool)) (i j : Nat) : Option (List (List Bool)) :=
  if (sqM T M i j (poss (lensT T))).1 < 0 then none else some (setM M i j (sqM T M i j (poss (lensT T))).2.1 (sqM T M i j (poss (lensT T))).2.2)
noncomputable def nextM (T : List (List Int)) (F M : List (List Bool)) (n : Int) : Option (List (List Bool)) := match badsM T F M n with
  | [] => none
  | x :: _ => squareM T M x.1 x.2

/-- How many cells are not set. -/
def openN (T : List (List Int)) (M : List (List Bool)) : Nat := (poss (lensT T)).countP fun x => !flagM M x.1 x.2
noncomputable def growN (T : List (List Int)) (F : List (List Bool)) (n : Int) : Nat → List (List Bool) → Option (List (List Bool))
  | 0, _ => none
  | f + 1, M => if badsM T F M n = [] then some M else match nextM T F M n with
    | none => none
    | some M' => growN T F n f M'
/-- A pattern grown until all cells are safe. -/
noncomputable def growM (T : List (List Int)) (F : List (List Bool)) (n : Int) : Option (List (List Bool)) := if mvB T F && cellB n then growN T F n (openN T F + 1) F else none
theorem countP_lt {α : Type} {p q : α → Bool} : ∀ {l : List α}, (∀ x ∈ l, p x = true → q x = true) → (∃ x ∈ l, q x = true ∧ p x = false) → l.countP p < l.countP q
  | [], _, h => by obtain ⟨x, hx, _⟩ := h; simp at hx
  | a :: l, h1, h2 => by
    have hle : l.countP p ≤ l.countP q := List.countP_mono_left fun x hx => h1 x (by simp [hx])
    rw [List.countP_cons, List.countP_cons]
    have ha := h1 a (by simp)
    obtain ⟨x, hx, hq, hp⟩ := h2
    rcases List.mem_cons.1 hx with rfl | hx
    · rw [hq, hp]; simp; omega
    · have := countP_lt (l := l) (fun x hx => h1 x (by simp [hx])) ⟨x, hx, hq, hp⟩
      cases hpa : p a
      · simp; omega
      · rw [ha hpa]; simp; omega

theorem lensT_len {α : Type} (T : List (List α)) : (lensT T).length = T.length := List.length_map _
theorem lensT_at {α : Type} (T : List (List α)) {i : Nat} (hi : i < T.length) : (lensT T).getD i 0 = (T.getD i []).length := by
  simp [lensT, List.getD_eq_getElem?_getD, List.getElem?_eq_getElem hi]
theorem poss_tv {T : List (List Int)} (h : tvB T = true) {x : Nat × Nat} : x ∈ poss (lensT T) ↔ x.1 < T.length ∧ x.2 < (T.getD 0 []).length := by
  constructor
  · intro hx
    obtain ⟨h1, h2⟩ := mem_poss hx
    rw [lensT_len] at h1
    rw [lensT_at T h1, ((tv_t.1 h).2.2.2.2 x.1 h1).1] at h2
    exact ⟨h1, h2⟩
  · rintro ⟨h1, h2⟩
    unfold poss
    rw [List.mem_flatMap]
    refine ⟨x.1, List.mem_range.2 (by rw [lensT_len]; exact h1), List.mem_map.2 ⟨x.2, List.mem_range.2 ?_, rfl⟩⟩
    rw [lensT_at T h1, ((tv_t.1 h).2.2.2.2 x.1 h1).1]
    exact h2

/-- The size of a mask that fits. -/
def FitM (T : List (List Int)) (M : List (List Bool)) : Prop := M.length = T.length ∧ ∀ i, i < T.length → (M.getD i []).length = (T.getD 0 []).length
theorem fitM_of {T : List (List Int)} {M : List (List Bool)} (h : mvB T M = true) : FitM T M := ⟨(mv_t.1 h).2.1, fun i hi => (mv_t.1 h).2.2 i (by rw [(mv_t.1 h).2.1]; exact hi)⟩
theorem fitM_mv {T : List (List Int)} {M : List (List Bool)} (ht : tvB T = true) (h : FitM T M) : mvB T M = true := mv_t.2 ⟨ht, h.1, fun i hi => h.2 i (by rw [← h.1]; exact hi)⟩
theorem FitM.put {T : List (List Int)} {M : List (List Bool)} (h : FitM T M) {a b : Nat} (ha : a < T.length) (v : Bool) : FitM T (putC M a b v) :=
  ⟨by rw [putC_len]; exact h.1, fun i hi => by rw [putC_row M a b i v (by rw [h.1]; exact ha)]; exact h.2 i hi⟩
theorem flag_put {T : List (List Int)} {M : List (List Bool)} (h : FitM T M) {a b : Nat} (ha : a < T.length) (hb : b < (T.getD 0 []).length) (v : Bool) (i j : Nat) : flagM (putC M a b v) i j = if i = a ∧ j = b then v else flagM M i j :=
  putC_at M i j v false (by rw [h.1]; exact ha) (by rw [h.2 a ha]; exact hb)
theorem FitM.set {T : List (List Int)} {M : List (List Bool)} (h : FitM T M) {i j k l : Nat} (hi : i < T.length) (hk : k < T.length) : FitM T (setM M i j k l) :=
  (((h.put hi true).put hi true).put hk true).put hk true
theorem flag_set {T : List (List Int)} {M : List (List Bool)} (h : FitM T M) {i j k l : Nat} (hi : i < T.length) (hj : j < (T.getD 0 []).length) (hk : k < T.length) (hl : l < (T.getD 0 []).length) (a b : Nat) :
    flagM (setM M i j k l) a b = true ↔ flagM M a b = true ∨ (a = i ∧ b = j) ∨ (a = i ∧ b = l) ∨ (a = k ∧ b = j) ∨ (a = k ∧ b = l) := by
  unfold setM
  rw [flag_put (((h.put hi true).put hi true).put hk true) hk hl, flag_put ((h.put hi true).put hi true) hk hj, flag_put (h.put hi true) hi hl, flag_put h hi hj]
  by_cases e1 : a = k ∧ b = l
  · simp [e1]
  · rw [if_neg e1]
    by_cases e2 : a = k ∧ b = j
    · simp [e2]
    · rw [if_neg e2]
      by_cases e3 : a = i ∧ b = l
      · simp [e3]
      · rw [if_neg e3]
        by_cases e4 : a = i ∧ b = j
        · simp [e4]
        · rw [if_neg e4]
          constructor
          · exact .inl
          · rintro (h | h | h | h | h)
            · exact h
            · exact absurd h e4
            · exact absurd h e3
            · exact absurd h e2
            · exact absurd h e1
theorem open_less {T : List (List Int)} {M : List (List Bool)} (ht : tvB T = true) (h : FitM T M) {i j k l : Nat} (hi : i < T.length) (hj : j < (T.getD 0 []).length) (hk : k < T.length) (hl : l < (T.getD 0 []).length) (ho : openM M i j k l = true) :
    openN T (setM M i j k l) < openN T M := by
  unfold openN
  refine countP_lt (fun x _ hp => ?_) ?_
  · simp only [Bool.not_eq_true'] at hp ⊢
    rw [Bool.eq_false_iff] at hp ⊢
    exact fun hh => hp ((flag_set h hi hj hk hl _ _).2 (.inl hh))
  · have : ∃ a b, a < T.length ∧ b < (T.getD 0 []).length ∧ flagM M a b = false ∧ ((a = i ∧ b = j) ∨ (a = i ∧ b = l) ∨ (a = k ∧ b = j) ∨ (a = k ∧ b = l)) := by
      unfold openM at ho
      simp only [Bool.not_eq_true', Bool.and_eq_false_iff] at ho
      rcases ho with ((ho | ho) | ho) | ho
      · exact ⟨i, j, hi, hj, ho, by simp⟩
      · exact ⟨i, l, hi, hl, ho, by simp⟩
      · exact ⟨k, j, hk, hj, ho, by simp⟩
      · exact ⟨k, l, hk, hl, ho, by simp⟩
    obtain ⟨a, b, ha, hb, hf, hw⟩ := this
    refine ⟨(a, b), (poss_tv ht).2 ⟨ha, hb⟩, by simp [hf], ?_⟩
    simp only [Bool.not_eq_false']
    exact (flag_set h hi hj hk hl a b).2 (.inr hw)

theorem cost_nn {T : List (List Int)} {M : List (List Bool)} (ht : tvB T = true) {i j : Nat} (hi : i < T.length) (hj : j < (T.getD 0 []).length) : 0 ≤ costC T M i j ∧ costC T M i j ≤ 99 := by
  have hr := (tv_t.1 ht).2.2.2.2 i hi
  have := hr.2 j (by rw [hr.1]; exact hj)
  unfold costC cellT
  split
  · omega
  · exact this
/-- What the search for a rectangle has found. -/
theorem sq_inv {T : List (List Int)} {M : List (List Bool)} (ht : tvB T = true) {i j : Nat} (hi : i < T.length) (hj : j < (T.getD 0 []).length) (pre : List (Nat × Nat)) (hp : ∀ x ∈ pre, x.1 < T.length ∧ x.2 < (T.getD 0 []).length) :
    (sqM T M i j pre = (-1, 0, 0)) ∨ (0 ≤ (sqM T M i j pre).1 ∧ (sqM T M i j pre).1 ≤ 396 ∧ (sqM T M i j pre).2.1 < T.length ∧ (sqM T M i j pre).2.2 < (T.getD 0 []).length ∧ openM M i j (sqM T M i j pre).2.1 (sqM T M i j pre).2.2 = true) := by
  induction pre using snoc_ind with
  | h0 => exact .inl rfl
  | hs l x ih =>
    have ih := ih fun y hy => hp y (by simp [hy])
    have hx := hp x (by simp)
    rw [sqM_snoc]
    unfold sqN
    split
    · exact ih
    · split
      · rename_i h
        have c1 := cost_nn (M := M) ht hi hj
        have c2 := cost_nn (M := M) ht hi hx.2
        have c3 := cost_nn (M := M) ht hx.1 hj
        have c4 := cost_nn (M := M) ht hx.1 hx.2
        refine .inr ⟨?_, ?_, hx.1, hx.2, h.1⟩ <;> (show _ ≤ _; unfold costM; omega)
      · exact ih
theorem bads_mem {T : List (List Int)} {F M : List (List Bool)} {n : Int} (ht : tvB T = true) {x : Nat × Nat} (h : x ∈ badsM T F M n) : x.1 < T.length ∧ x.2 < (T.getD 0 []).length :=
  (poss_tv ht).1 (List.mem_filter.1 h).1
theorem next_some {T : List (List Int)} {F M M' : List (List Bool)} {n : Int} (ht : tvB T = true) (hM : FitM T M) (h : nextM T F M n = some M') : FitM T M' ∧ openN T M' < openN T M := by
  unfold nextM at h
  split at h
  · cases h
  · rename_i x r hb
    obtain ⟨h1, h2⟩ := bads_mem (F := F) (M := M) (n := n) ht (x := x) (by rw [hb]; simp)
    unfold squareM at h
    split at h
    · cases h
    · rename_i hn
      simp only [Option.some.injEq] at h
      subst h
      rcases sq_inv (M := M) ht h1 h2 (poss (lensT T)) (fun y hy => (poss_tv ht).1 hy) with e | ⟨_, _, h3, h4, h5⟩
      · rw [e] at hn; simp at hn
      · exact ⟨hM.set h1 h3, open_less ht hM h1 h2 h3 h4 h5⟩
theorem grow_fuel {T : List (List Int)} {F : List (List Bool)} {n : Int} (ht : tvB T = true) : ∀ (f : Nat) (M : List (List Bool)) (g : Nat), FitM T M → openN T M < f → openN T M < g → growN T F n f M = growN T F n g M := by
  intro f
  induction f with
  | zero => intro M g _ h; omega
  | succ f ih =>
    intro M g hM hf hg
    obtain ⟨g, rfl⟩ : ∃ k, g = k + 1 := ⟨g - 1, by omega⟩
    unfold growN
    split
    · rfl
    · cases hn : nextM T F M n with
      | none => rfl
      | some M' =>
        obtain ⟨h1, h2⟩ := next_some ht hM hn
        exact ih M' g h1 (by omega) (by omega)
theorem grow_done {T : List (List Int)} {F M : List (List Bool)} {n : Int} (h : badsM T F M n = []) : growN T F n (openN T M + 1) M = some M := by
  unfold growN
  rw [if_pos h]
theorem grow_none {T : List (List Int)} {F M : List (List Bool)} {n : Int} (h : badsM T F M n ≠ []) (hn : nextM T F M n = none) : growN T F n (openN T M + 1) M = none := by
  unfold growN
  rw [if_neg h, hn]
theorem grow_next {T : List (List Int)} {F M M' : List (List Bool)} {n : Int} (ht : tvB T = true) (hM : FitM T M) (h : badsM T F M n ≠ []) (hn : nextM T F M n = some M') : growN T F n (openN T M + 1) M = growN T F n (openN T M' + 1) M' := by
  obtain ⟨h1, h2⟩ := next_some ht hM hn
  conv => lhs; unfold growN
  rw [if_neg h, hn]
  exact grow_fuel ht _ _ _ h1 (by omega) (by omega)
end Go.Proofs.YtlmlchkolcmhpaaGreatDoor
end

section
/-
  Plain mathematics of scripts: words, what a line does, what a script prints; scripts made of people's lines.
-/
namespace Go.Proofs.YtlmlchkolcmhpaaGreatDoor
open Go.RowKit
open Go.TextMath (tvB mvB text word)
open Go.ParseMath

def kPerson : List UInt8 := [112, 101, 114, 115, 111, 110]
def kDrop : List UInt8 := [100, 114, 111, 112]
def kCount : List UInt8 := [99, 111, 117, 110, 116]
def kTable : List UInt8 := [116, 97, 98, 108, 101]
def kSmall : List UInt8 := [115, 109, 97, 108, 108]
def kGrow : List UInt8 := [103, 114, 111, 119]
def kRound : List UInt8 := [114, 111, 117, 110, 100]
def kGroups : List UInt8 := [103, 114, 111, 117, 112, 115]
def sOk : List UInt8 := [111, 107, 10]
def sNo : List UInt8 := [110, 111, 10]
def sWhat : List UInt8 := [119, 104, 97, 116, 10]
def sPeople : List UInt8 := [112, 101, 111, 112, 108, 101, 32]
def sLong : List UInt8 := [116, 111, 111, 32, 108, 111, 110, 103, 10]

/-- The number that a word denotes. -/
def scrN (l : List UInt8) : Int := if l = [45] then -1 else if numS l < 0 then 10000 else numS l
def numsM (ws : List (List UInt8)) : List Int := (ws.drop 1).map scrN

def countM (L : List Per) (n : List Int) : List UInt8 :=
  if askB (n.getD 0 0) (n.getD 1 0) (n.getD 2 0) then text [[manyP L (n.getD 0 0) (n.getD 1 0) (n.getD 2 0), payP L (n.getD 0 0) (n.getD 1 0) (n.getD 2 0)]] [] else sNo
def groupsM (L : List Per) : List UInt8 := text [[leastG L, (manyG L : Int), (aloneG L : Int)]] []
def roundM (T : List (List Int)) (b : Int) : List UInt8 := if baseB b then text (nearT T b) [] else sNo
noncomputable def growS (T : List (List Int)) (k n : Int) : List UInt8 := match growM T (maskS T k) n with
  | none => sNo
  | some M => text T M

/-- Which line it is. -/
def kindM (ws : List (List UInt8)) : Nat :=
  if ws.getD 0 [] = kPerson ∧ ws.length = 5 then 1
  else if ws.getD 0 [] = kDrop ∧ ws.length = 2 then 2
  else if ws.getD 0 [] = kCount ∧ ws.length = 4 then 3
  else if ws.getD 0 [] = kTable ∧ ws.length = 1 then 4
  else if ws.getD 0 [] = kSmall ∧ ws.length = 2 then 5
  else if ws.getD 0 [] = kGrow ∧ ws.length = 3 then 6
  else if ws.getD 0 [] = kRound ∧ ws.length = 2 then 7
  else if ws.getD 0 [] = kGroups ∧ ws.length = 1 then 8
  else 0

/-- What a line does to the people, and what it prints. -/
noncomputable def stepM (L : List Per) (ws : List (List UInt8)) : List Per × List UInt8 :=
  match kindM ws with
  | 1 => if pplB (L ++ [perR (numsM ws)]) then (L ++ [perR (numsM ws)], sOk) else (L, sNo)
  | 2 => if 0 ≤ (numsM ws).getD 0 0 ∧ (numsM ws).getD 0 0 < L.length then (without L ((numsM ws).getD 0 0).toNat, sOk) else (L, sNo)
  | 3 => (L, countM L (numsM ws))
  | 4 => (L, text (tabO L) [])
  | 5 => (L, text (tabO L) (maskS (tabO L) ((numsM ws).getD 0 0)))
  | 6 => (L, growS (tabO L) ((numsM ws).getD 0 0) ((numsM ws).getD 1 0))
  | 7 => (L, roundM (tabO L) ((numsM ws).getD 0 0))
  | 8 => (L, groupsM L)
  | _ => (L, sWhat)

/-- Some lines. -/
noncomputable def runM (L : List Per) (ls : List (List (List UInt8))) : List Per × List UInt8 :=
  ls.foldl (fun x ws => ((stepM x.1 ws).1, x.2 ++ (stepM x.1 ws).2)) (L, [])
theorem runM_nil (L : List Per) : runM L [] = (L, []) := rfl
theorem runM_snoc (L : List Per) (ls : List (List (List UInt8))) (ws : List (List UInt8)) :
    runM L (ls ++ [ws]) = ((stepM (runM L ls).1 ws).1, (runM L ls).2 ++ (stepM (runM L ls).1 ws).2) := by
  unfold runM
  rw [List.foldl_append]
  rfl
theorem runM_append (L : List Per) (a b : List (List (List UInt8))) : runM L (a ++ b) = ((runM (runM L a).1 b).1, (runM L a).2 ++ (runM (runM L a).1 b).2) := by
  induction b using snoc_ind with
  | h0 => rw [List.append_nil, runM_nil, List.append_nil]
  | hs l x ih => rw [← List.append_assoc, runM_snoc, ih, runM_snoc, List.append_assoc]
theorem runM_one (L : List Per) (ws : List (List UInt8)) : runM L [ws] = stepM L ws := by
  rw [show [ws] = [] ++ [ws] from rfl, runM_snoc, runM_nil, List.nil_append]
theorem stepM_ok {L : List Per} (h : pplB L = true) (ws : List (List UInt8)) : pplB (stepM L ws).1 = true := by
  unfold stepM
  split
  · split
    · assumption
    · exact h
  · split
    · exact without_ok h (by omega)
    · exact h
  all_goals exact h
theorem runM_ok {L : List Per} (h : pplB L = true) (ls : List (List (List UInt8))) : pplB (runM L ls).1 = true := by
  induction ls using snoc_ind with
  | h0 => exact h
  | hs l x ih => rw [runM_snoc]; exact stepM_ok ih x

/-- What a script prints. -/
noncomputable def execM (s : List UInt8) : List UInt8 :=
  if s.length ≤ 500 then (runM [] ((cutL 10 s).dropLast.map (cutL 32))).2 ++ sPeople ++ word ((runM [] ((cutL 10 s).dropLast.map (cutL 32))).1.length : Int) ++ [10] else sLong

/-- A person's line, without its end. -/
def perL (p : Per) : List UInt8 := kPerson ++ 32 :: lineOf (rowOf p)
def scriptOf (ls : List (List UInt8)) : List UInt8 := (ls.map fun l => l ++ [10]).flatten
theorem scriptOf_append (a b : List (List UInt8)) : scriptOf (a ++ b) = scriptOf a ++ scriptOf b := by
  unfold scriptOf
  rw [List.map_append, List.flatten_append]
theorem cut_script {ls : List (List UInt8)} (h : ∀ l ∈ ls, (10 : UInt8) ∉ l) : (cutL 10 (scriptOf ls)).dropLast = ls := by
  unfold scriptOf
  rw [cutL_lines ls h]
  simp
def oks (n : Nat) : List UInt8 := (List.replicate n sOk).flatten
end Go.Proofs.YtlmlchkolcmhpaaGreatDoor
end

section
/-
  Plain mathematics: the map of the wanted numbers of words, as it reads.
-/
namespace Go.Proofs.YtlmlchkolcmhpaaGreatDoor
open Go.RowKit Go.Maps Go.WideShapes

def kw (l : List UInt8) : Lit := .string l
def dn (n : Int) : DataW Unit := .lit (.int .i64 n)
theorem kw_inj {a b : List UInt8} : kw a = kw b ↔ a = b := by simp [kw]
theorem has_putk {D : DataW Unit} (hD : IsMap D) (a l : List UInt8) (d : DataW Unit) : Maps.has (D.put (kw a) d) (kw l) = (decide (l = a) || Maps.has D (kw l)) := by
  by_cases e : l = a
  · subst e
    rw [has_put_same hD (show WideAt.IsKeyLit (kw l) from trivial)]
    simp
  · rw [has_put_other (fun h => e (kw_inj.1 h))]
    simp [e]
theorem at_putk {D : DataW Unit} (hD : IsMap D) (a l : List UInt8) (d z : DataW Unit) : (D.put (kw a) d).atKey (kw l) z = if l = a then d else D.atKey (kw l) z := by
  by_cases e : l = a
  · subst e
    rw [atKey_put_same hD (show WideAt.IsKeyLit (kw l) from trivial), if_pos rfl]
  · rw [atKey_put_other (fun h => e (kw_inj.1 h)), if_neg e]
def want0 : DataW Unit := .map []
def want1 : DataW Unit := want0.put (kw kPerson) (dn 4)
def want2 : DataW Unit := want1.put (kw kDrop) (dn 1)
def want3 : DataW Unit := want2.put (kw kCount) (dn 3)
def want4 : DataW Unit := want3.put (kw kTable) (dn 0)
def want5 : DataW Unit := want4.put (kw kSmall) (dn 1)
def want6 : DataW Unit := want5.put (kw kGrow) (dn 2)
def want7 : DataW Unit := want6.put (kw kRound) (dn 1)
def want8 : DataW Unit := want7.put (kw kGroups) (dn 0)
theorem isM0 : IsMap want0 := isMap_empty
theorem isM1 : IsMap want1 := isM0.put _ _
theorem isM2 : IsMap want2 := isM1.put _ _
theorem isM3 : IsMap want3 := isM2.put _ _
theorem isM4 : IsMap want4 := isM3.put _ _
theorem isM5 : IsMap want5 := isM4.put _ _
theorem isM6 : IsMap want6 := isM5.put _ _
theorem isM7 : IsMap want7 := isM6.put _ _
def wantN (l : List UInt8) : Option Int := if l = kGroups then some 0 else if l = kRound then some 1 else if l = kGrow then some 2 else if l = kSmall then some 1 else if l = kTable then some 0 else if l = kCount then some 3 else if l = kDrop then some 1 else if l = kPerson then some 4 else none
theorem want_has (l : List UInt8) : Maps.has want8 (kw l) = (wantN l).isSome := by
  rw [want8, has_putk isM7, want7, has_putk isM6, want6, has_putk isM5, want5, has_putk isM4, want4, has_putk isM3, want3, has_putk isM2, want2, has_putk isM1, want1, has_putk isM0]
  have h0 : Maps.has want0 (kw l) = false := rfl
  rw [h0]
  unfold wantN
  by_cases e1 : l = kGroups
  · simp [e1]
  by_cases e2 : l = kRound
  · simp [e2]
    split <;> rfl
  by_cases e3 : l = kGrow
  · simp only [e3]; decide
  by_cases e4 : l = kSmall
  · simp only [e4]; decide
  by_cases e5 : l = kTable
  · simp only [e5]; decide
  by_cases e6 : l = kCount
  · simp only [e6]; decide
  by_cases e7 : l = kDrop
  · simp only [e7]; decide
  by_cases e8 : l = kPerson
  · simp only [e8]; decide
  rw [if_neg e1, if_neg e2, if_neg e3, if_neg e4, if_neg e5, if_neg e6, if_neg e7, if_neg e8]
  simp [e1, e2, e3, e4, e5, e6, e7, e8]
theorem want_at (l : List UInt8) : want8.atKey (kw l) (dn 0) = dn ((wantN l).getD 0) := by
  rw [want8, at_putk isM7, want7, at_putk isM6, want6, at_putk isM5, want5, at_putk isM4, want4, at_putk isM3, want3, at_putk isM2, want2, at_putk isM1, want1, at_putk isM0]
  have h0 : want0.atKey (kw l) (dn 0) = dn 0 := rfl
  rw [h0]
  unfold wantN
  repeat' split
  all_goals rfl
theorem dn_inj {a b : Int} (h : dn a = dn b) : a = b := by
  unfold dn at h
  injection h with h
  injection h with _ h

end Go.Proofs.YtlmlchkolcmhpaaGreatDoor
end

section
/-
  strconv.Atoi at every text: whether it finds a number, and which; where its two errors lie.
-/
namespace Go.Proofs.YtlmlchkolcmhpaaGreatDoor
open Go.RowKit
open Go.ParseMath (okI valI)

/-- The library's two errors are laid. -/
def ErrL (w : World) : Prop := (∃ t p, w.cell? ⟨4, 0, none⟩ = some (.iface t p)) ∧ ∃ t p, w.cell? ⟨5, 0, none⟩ = some (.iface t p)
theorem ErrL.keep {w w' : World} (h : ErrL w) {B : Nat} (hb : Below B w w') (hB : w.heap.size ≤ B) : ErrL w' := by
  obtain ⟨⟨t, p, h1⟩, t', p', h2⟩ := h
  exact ⟨⟨t, p, (hb.cell (p := ⟨_, 0, none⟩) (Nat.lt_of_lt_of_le (World.block_lt_of_cell? _ _ h1) hB)).trans h1⟩, t', p', (hb.cell (p := ⟨_, 0, none⟩) (Nat.lt_of_lt_of_le (World.block_lt_of_cell? _ _ h2) hB)).trans h2⟩

theorem atoi_yes (s : ByteArray) (w : World) (hs : s.size ≤ 281474976710656) (h : okI s.data.toList = true) :
    Calls Tryz.prog 70 #[.string s] w fun e w' => e = .returned (.tuple #[.int .i64 (valI s.data.toList), .nilIface]) ∧ Below w.heap.size w w' := by
  unfold okI at h
  unfold valI
  cases ha : Lib.atoiAll s.data.toList
  · rename_i v
    refine (Tryz.strconv_Atoi_ok s (by omega) v ha w).mono ?_
    rintro e w' ⟨he, rfl | ⟨t, rfl⟩⟩
    · exact ⟨he, Below.refl _ _⟩
    · exact ⟨he, Lib.bytesWorld_below _ _ _⟩
  · rw [ha] at h; cases h
  · rw [ha] at h; cases h
/-- Some error. -/
def SomeErr (w : World) (e : Ending) (w' : World) : Prop := ∃ (v : Int) (t : TypeId) (N : Nat), e = .returned (.tuple #[.int .i64 v, .iface t (.pointer (some ⟨N, 0, none⟩))]) ∧ Below w.heap.size w w'
end Go.Proofs.YtlmlchkolcmhpaaGreatDoor
end

section
/-
  From the row's condition on what the library's variables hold, to what the walks ask: the table of powers, the two errors.
-/
namespace Go.Proofs.YtlmlchkolcmhpaaGreatDoor
open Go.RowKit Go.ChangeShapes

theorem pow_data : (Rows.laid_internal_strconv_uint64pow10 : DataW Unit) = Lib.tabData .u64 Lib.pow10Tab := by kernel_rfl
theorem starE : "*" ++ "errors.errorString" = "*errors.errorString" := by decide
theorem rowErr (u : TypeId) (h : Tryz.prog.typeName? 3 u = some "*errors.errorString") : u = 176 :=
  typeName_ptr_named (nm := "errors.errorString") (by rw [starE]; kernel_rfl) (by kernel_rfl) (by decide) u (by rw [starE]; exact h)
theorem gSyn : Tryz.prog.globalNamed "strconv.ErrSyntax" = some 4 := by kernel_rfl
theorem gRng : Tryz.prog.globalNamed "strconv.ErrRange" = some 5 := by kernel_rfl
theorem gSynT : (Tryz.prog.globals[4]?).map (·.type) = some 42 := by kernel_rfl
theorem gRngT : (Tryz.prog.globals[5]?).map (·.type) = some 42 := by kernel_rfl
theorem cellsE : Tryz.prog.cellsOf 178 = 1 := by kernel_rfl
theorem cellsStr : Tryz.prog.cellsOf 9 = 1 := by kernel_rfl

/-- What the walks ask of the library's variables. -/
def LibL (w : World) : Prop := PowTab w ∧ ErrL w
theorem LibL.keep {w w' : World} (h : LibL w) {B : Nat} (hb : Below B w w') (hB : w.heap.size ≤ B) : LibL w' := ⟨h.1.keep hb hB, h.2.keep hb hB⟩
theorem lib_of_laid {W : World} (h : laidMetH Tryz.prog [("math/bits.deBruijn32tab", Rows.laid_math_bits_deBruijn32tab), ("math/bits.deBruijn64tab", Rows.laid_math_bits_deBruijn64tab), ("internal/strconv.uint64pow10", Rows.laid_internal_strconv_uint64pow10), ("unicode/utf8.acceptRanges", Rows.laid_unicode_utf8_acceptRanges), ("strconv.ErrRange", Rows.laid_strconv_ErrRange), ("strconv.ErrSyntax", Rows.laid_strconv_ErrSyntax), ("unicode/utf8.first", Rows.laid_unicode_utf8_first)] W) : LibL W := by
  rw [MakeChecks.laidMetH_plain _ _ _ (by kernel_rfl)] at h
  have h2 := h.tail.tail
  have h3 := h2.tail.tail
  have h4 := h3.tail
  rw [pow_data] at h2
  obtain ⟨a1, s1, hv1, _, _, _⟩ := laid_sentinel h3 gRng gRngT Tryz.underlying42 rowErr Tryz.underlying176 Tryz.underlying178 rfl rfl Tryz.underlying9 cellsE cellsStr
  obtain ⟨a2, s2, hv2, _, _, _⟩ := laid_sentinel h4 gSyn gSynT Tryz.underlying42 rowErr Tryz.underlying176 Tryz.underlying178 rfl rfl Tryz.underlying9 cellsE cellsStr
  refine ⟨Lib.tabIs_of_head gpow (by kernel_rfl) Tryz.underlying151 Tryz.underlying133 (by kernel_rfl) (by kernel_rfl) h2, ⟨176, .pointer (some a2), ?_⟩, 176, .pointer (some a1), ?_⟩
  · exact (World.var?_cell gSyn hv2 0).trans rfl
  · exact (World.var?_cell gRng hv1 0).trans rfl
end Go.Proofs.YtlmlchkolcmhpaaGreatDoor
end

section
/-
  The wrap of a row with a condition on its world, the world's shape handed on; the run-time's cell that strings.Split reads.
-/
namespace Go.Proofs.YtlmlchkolcmhpaaGreatDoor
open Go.RowKit

theorem handed_shaped_and {H : Type} {enc : TypeId × Value → H} {a : Assume} {C : Checked} {os : Os} {f : FuncId} {fn : Func} {s : ChangeSpec} {conds : List PathCond} {apart fresh handsOn again : Bool} {X : World → Array Value → Prop}
    (hX : ∀ (w w' : World) (args : Array Value), w.heap = w'.heap → X w args → X w' args)
    (own : ownKnob C.prog.godebug = none) (started : os.Started) (noInit : C.prog.inits.idxOf? f = none) (hfn : C.prog.funcs[f]? = some fn)
    (witness : ∃ (w : World) (tape : Tape) (i : Input), w.os = os ∧ (w.forCall tape i).Shaped C.prog ∧ i.vars = [] ∧ Input.okWide C.prog (w.forCall tape i) .any w.heap.size f i ∧
      ((s.pre enc C.prog fn conds apart (w.forCall tape i).memory i.args ∧ X (w.forCall tape i).memory i.args) ∧ sizedMet enc C.prog fn (OpenSpec.ofChange s) apart (w.forCall tape i).memory i.args) ∧ a.holds C.prog (lone (Frame.enter C.prog f i.args .normal) [] (w.forCall tape i)))
    (contract : ∀ (W : World) (base : Nat) (args : Array Value) (ds gs : List (DataW H)) (before : List MemPlace),
      (∀ (j : Nat) t v, fn.params[j]? = some t → args[j]? = some v → Value.okWide C.prog W .any base t v) →
      DataW.Whole enc C.prog fn.params.toList s.vars apart W args.toList ds gs before → W.ShapedOpen C.prog → X W args →
      Calls C.prog f args W fun e W' => ∃ v, e = .returned v ∧ s.post enc C.prog fn apart fresh handsOn again W args v W') :
    ReturnsInHanded a C os f .any (fun w args => (s.pre enc C.prog fn conds apart w args ∧ X w args) ∧ sizedMet enc C.prog fn (OpenSpec.ofChange s) apart w args) (s.post enc C.prog fn apart fresh handsOn again) := by
  refine returnsInHanded_of_calls own started noInit witness ?_
  intro w tape i _ hsh _ hok hpre hholds
  obtain ⟨_, _, _, fn', hfn', _, _, _, _, hval⟩ := hok
  have e : fn' = fn := Option.some.inj (hfn'.symm.trans hfn)
  subst e
  obtain ⟨⟨⟨ds, gs, before, hw, hc⟩, hx⟩, hz⟩ := hpre
  have hw' := DataW.Whole.of_heap (w' := w.forCall tape i) (by rfl) hw
  refine (contract (w.forCall tape i) w.heap.size i.args ds gs before hval hw' hsh (hX _ _ _ (by rfl) hx)).mono fun e W' ⟨v, he, hp⟩ => ?_
  subst he
  exact ChangeSpec.post_blind hp

/-- What the walks ask of the library's variables, strings.Split's too. -/
def LibM (w : World) : Prop := LibL w ∧ ∃ m : Int, w.cell? ⟨0, 0, none⟩ = some (.int .i64 m)
theorem LibM.keep {w w' : World} (h : LibM w) {B : Nat} (hb : Below B w w') (hB : w.heap.size ≤ B) : LibM w' :=
  ⟨h.1.keep hb hB, h.2.imp fun _ hm => (hb.cell (p := ⟨0, 0, none⟩) (Nat.lt_of_lt_of_le (World.block_lt_of_cell? _ _ hm) hB)).trans hm⟩
theorem maxLen_of_shape {w : World} (h : w.ShapedOpen Tryz.prog) : ∃ m : Int, w.cell? ⟨0, 0, none⟩ = some (.int .i64 m) :=
  cell_of_shapedOpen_int (t := 3) (zero := #[.int .i64 0]) h (of_decide_eq_true (by kernel_rfl)) (by kernel_rfl) rfl (by kernel_rfl) (by kernel_rfl) Tryz.underlying3
end Go.Proofs.YtlmlchkolcmhpaaGreatDoor
end

section
/-
  Contract: (*spec.l6Rd).pick, the number that is picked being known ahead of the call.
-/
namespace Go.Proofs.YtlmlchkolcmhpaaGreatDoor
open Go.RowKit

def PickedK (k p : Int) (rb : Nat) (w : World) (e : Ending) (w' : World) : Prop := e = .returned (.int .i64 k) ∧ IsRd w' rb (p + 1) ∧ Only rb w w'

/-- The reader's memory is as it was. -/
def Ag (rb : Nat) (w W : World) : Prop := ∀ k, k ≤ rb → W.heap[k]? = w.heap[k]?
end Go.Proofs.YtlmlchkolcmhpaaGreatDoor
end

section
/-
  Contracts: spec.l92Table, spec.DrawTableText: tables that are drawn.
-/
namespace Go.Proofs.YtlmlchkolcmhpaaGreatDoor
open Go.RowKit

/-- A table that was drawn, whatever it holds, in memory of its own. -/
def TabD (rb : Nat) (p : Int) (w : World) (e : Ending) (w' : World) : Prop :=
  ∃ (ao : Option Addr) (b cap : Nat) (T : List (List Int)) (p' : Int), e = .returned (.slice ao T.length cap) ∧ TabG (Value.int .i64) (rb + 1) w' ao b 0 T ∧ T.length ≤ cap ∧ cap ≤ 9223372036854775807 ∧ T.length ≤ 4 ∧
    (∀ i, i < T.length → (T.getD i []).length ≤ 5) ∧ IsRd w' rb p' ∧ p' ≤ p + 30 ∧ Fr rb w w'

theorem MtG.fr {α : Type} {enc : α → Value} {RT ET : TypeId} {w w' : World} {rb base : Nat} {v : Value} {T : List (List α)} {g : Nat → Nat} (h : MtG enc RT ET w base v T g) (hg : Fr rb w w') (hrb : rb < base) : MtG enc RT ET w' base v T g :=
  h.kept (row := some rb) hg (fun k e => by injection e with e; omega)
theorem MtG.drew {α : Type} {enc : α → Value} {RT ET : TypeId} {w : World} {base : Nat} {v : Value} {T : List (List α)} {g : Nat → Nat} (h : MtG enc RT ET w base v T g) : MtG enc RT ET w.drew base v T g := h.below (Below.refl _ _).drew
theorem Fr.setCell {rb : Nat} {a b : World} (h : Fr rb a b) {p : Addr} (hp : a.heap.size ≤ p.block) (u : Value) : Fr rb a (b.setCell p u) :=
  ⟨h.os, h.tape, h.output, by simpa [World.setCell] using h.size, fun i hi hne => (Below.heap_setCell _ _ _ _ (by omega)).trans (h.block i hi hne)⟩
theorem nat_of {x : Int} (h : 0 ≤ x) : ∃ n : Nat, x = n := Int.eq_ofNat_of_zero_le h

end Go.Proofs.YtlmlchkolcmhpaaGreatDoor
end

section
/-
  Contract: spec.DrawTableText.
-/
namespace Go.Proofs.YtlmlchkolcmhpaaGreatDoor
open Go.RowKit

/-- A drawn table, the reader forgotten. -/
def TabW (w : World) (e : Ending) (w' : World) : Prop :=
  ∃ (ao : Option Addr) (b cap : Nat) (T : List (List Int)), e = .returned (.slice ao T.length cap) ∧ TabG (Value.int .i64) 0 w' ao b 0 T ∧ T.length ≤ cap ∧ cap ≤ 9223372036854775807 ∧ T.length ≤ 4 ∧
    (∀ i, i < T.length → (T.getD i []).length ≤ 5) ∧ Below w.heap.size w w'
theorem TabG.low {α : Type} {enc : α → Value} {B : Nat} {w : World} {ao : Option Addr} {b off : Nat} {T : List (List α)} (h : TabG enc B w ao b off T) : TabG enc 0 w ao b off T :=
  ⟨h.1, fun i hi => by
    obtain ⟨_, a', b', o', c', _, h1⟩ := h.2 i hi
    exact ⟨Nat.zero_le _, a', b', o', c', Nat.zero_le _, h1⟩⟩

end Go.Proofs.YtlmlchkolcmhpaaGreatDoor
end

section
/-
  Contracts: laws.eqPersonS; people in memory.
-/
namespace Go.Proofs.YtlmlchkolcmhpaaGreatDoor
open Go.RowKit

theorem eltP : Elt 27 69 (.agg #[.int .i64 0, .int .i64 0, .int .i64 0, .int .i64 0]) 4 32 := ⟨Tryz.underlying27, by kernel_rfl, rfl, by decide, by decide⟩

/-- The first m people are laid. -/
def perF (L : List Per) (m i : Nat) : Value :=
  if i / 4 < m then (if i % 4 = 0 then .int .i64 (L.getD (i / 4) per0).area else if i % 4 = 1 then .int .i64 (L.getD (i / 4) per0).job else if i % 4 = 2 then .int .i64 (L.getD (i / 4) per0).sex else .int .i64 (L.getD (i / 4) per0).pay) else .int .i64 0

end Go.Proofs.YtlmlchkolcmhpaaGreatDoor
end

section
/-
  Contract: spec.l91Person.
-/
namespace Go.Proofs.YtlmlchkolcmhpaaGreatDoor
open Go.RowKit

theorem Only.trans {rb : Nat} {a b c : World} (h : Only rb a b) (k : Only rb b c) : Only rb a c :=
  ⟨k.1.trans h.1, k.2.1.trans h.2.1, k.2.2.1.trans h.2.2.1, k.2.2.2.1.trans h.2.2.2.1, fun i hi => (k.2.2.2.2 i hi).trans (h.2.2.2.2 i hi)⟩
/-- A person that was drawn. -/
def PerD (rb : Nat) (p : Int) (w : World) (e : Ending) (w' : World) : Prop :=
  ∃ a j s y : Int, e = .returned (.agg #[.int .i64 a, .int .i64 j, .int .i64 s, .int .i64 y]) ∧ (0 ≤ y ∧ y ≤ 999) ∧ IsRd w' rb (p + 5) ∧ Fr rb w w'

set_option maxHeartbeats 1000000 in
theorem personD (rb : Nat) (p : Int) (w : World) (h : IsRd w rb p) (hp : p ≤ 100000) :
    Calls Tryz.prog 53 #[.pointer (some ⟨rb, 0, none⟩)] w (PerD rb p w) := by
  have HI := Lib.hid h
  have hlt0 := h.lt
  clear h
  obtain ⟨W0, hW0⟩ : ∃ W0, w.alloc (.cells #[.int .i64 0, .int .i64 0, .int .i64 0, .int .i64 0] 69) = W0 := ⟨_, rfl⟩
  have hr0 : W0.rowIs w.heap.size 69 4 (fun _ => .int .i64 0) := by
    rw [← hW0]
    exact World.rowIs_alloc w #[.int .i64 0, .int .i64 0, .int .i64 0, .int .i64 0] 69 (fun _ => .int .i64 0) (fun i hi => by
      have : i = 0 ∨ i = 1 ∨ i = 2 ∨ i = 3 := by simp at hi; omega
      rcases this with rfl | rfl | rfl | rfl <;> rfl)
  have HR0 := Lib.hid hr0
  have HRD0 : Hid (IsRd W0 rb p) := Lib.hid (by rw [← hW0]; exact HI.out.alloc _)
  have HF0 : Hid (Fr rb w W0) := Lib.hid (by rw [← hW0]; exact (Fr.refl rb w).alloc _)
  have HW0 := Lib.hid hW0
  clear hr0 hW0
  go_enter Tryz.func53, Tryz.ntmps53
  go_wp2_with fail
  rw [HW0.out]
  refine (pick_any rb 4 p W0 HRD0.out (by omega) (by omega)).mono ?_
  rintro e w1 ⟨a, rfl, ha0, ha1, hrd1, ho1⟩
  have HRD1 := Lib.hid hrd1
  have HO1 := Lib.hid ho1
  clear hrd1 ho1
  go_wp2_with fail
  refine (pick_any rb 3 (p + 1) w1 HRD1.out (by omega) (by omega)).mono ?_
  rintro e w2 ⟨j, rfl, hj0, hj1, hrd2, ho2⟩
  have HRD2 := Lib.hid hrd2
  have HO2 := Lib.hid (HO1.out.trans ho2)
  clear hrd2 ho2
  go_wp2_with fail
  refine (pick_any rb 2 (p + 1 + 1) w2 HRD2.out (by omega) (by omega)).mono ?_
  rintro e w3 ⟨s, rfl, hs0, hs1, hrd3, ho3⟩
  have HRD3 := Lib.hid hrd3
  have HO3 := Lib.hid (HO2.out.trans ho3)
  clear hrd3 ho3
  go_wp2_with fail
  refine (pick_any rb 10 (p + 1 + 1 + 1) w3 HRD3.out (by omega) (by omega)).mono ?_
  rintro e w4 ⟨y1, rfl, hy10, hy11, hrd4, ho4⟩
  have HRD4 := Lib.hid hrd4
  have HO4 := Lib.hid (HO3.out.trans ho4)
  have hy12 : y1 ≤ 9 := by omega
  clear hrd4 ho4
  go_wp2_with fail
  refine (pick_any rb 100 (p + 1 + 1 + 1 + 1) w4 HRD4.out (by omega) (by omega)).mono ?_
  rintro e w5 ⟨y2, rfl, hy20, hy21, hrd5, ho5⟩
  have HRD5 := Lib.hid hrd5
  have HO5 := Lib.hid (HO4.out.trans ho5)
  have hy22 : y2 ≤ 99 := by omega
  have hr5 : w5.rowIs w.heap.size 69 4 (fun _ => .int .i64 0) := HR0.out.of_block (HO5.out.2.2.2.2 w.heap.size (by omega))
  have hc0 := hr5.cell (i := 0) (by omega)
  have hc1 := hr5.cell (i := 1) (by omega)
  have hc2 := hr5.cell (i := 2) (by omega)
  have hc3 := hr5.cell (i := 3) (by omega)
  have hf0 := hr5.frozen 0
  have hf1 := hr5.frozen 1
  have hf2 := hr5.frozen 2
  have hf3 := hr5.frozen 3
  have HF5 := Lib.hid (HF0.out.only HO5.out)
  clear hrd5 ho5 hr5 ha1 hj1 hs1 hy11 hy21
  go_wp2_with fail
  refine bodyPost_ret (v := .agg #[.int .i64 a, .int .i64 j, .int .i64 s, .int .i64 (y1 * 100 + y2)]) (by simp [results, Tryz.results53, go_sem, hc0, hc1, hc2, hc3]) rfl ⟨a, j, s, y1 * 100 + y2, rfl, by omega, ?_, ?_⟩
  · rw [show p + 5 = p + 1 + 1 + 1 + 1 + 1 by omega]
    exact HRD5.out.keep (B := w.heap.size) (((((Below.refl w.heap.size w5).setCell (p := ⟨w.heap.size, 0, none⟩) (Nat.le_refl _) _).setCell (p := ⟨w.heap.size, 1, none⟩) (Nat.le_refl _) _).setCell (p := ⟨w.heap.size, 2, none⟩) (Nat.le_refl _) _).setCell (p := ⟨w.heap.size, 3, none⟩) (Nat.le_refl _) _) hlt0
  · exact (((HF5.out.setCell (p := ⟨w.heap.size, 0, none⟩) (Nat.le_refl _) _).setCell (p := ⟨w.heap.size, 1, none⟩) (Nat.le_refl _) _).setCell (p := ⟨w.heap.size, 2, none⟩) (Nat.le_refl _) _).setCell (p := ⟨w.heap.size, 3, none⟩) (Nat.le_refl _) _
end Go.Proofs.YtlmlchkolcmhpaaGreatDoor
end

section
/-
  What is owned is kept where only the reader's block turns.
-/
namespace Go.Proofs.YtlmlchkolcmhpaaGreatDoor
open Go.RowKit

theorem own_only {w w' : World} {rb base size n : Nat} {e : TypeId} {v : Value} {cs : List Value} (h : w.ownsRow base e size v n cs) (ho : Only rb w w') (hb : rb < base) : w'.ownsRow base e size v n cs := by
  refine World.ownsRow.kept (row := some rb) h ⟨ho.1, ho.2.1, ho.2.2.1, Nat.le_of_eq ho.2.2.2.1.symm, fun k _ hne => ho.2.2.2.2 k (fun e => hne (by rw [e]))⟩ ?_
  cases hv : v.ownBlock with
  | none => exact .inl rfl
  | some k =>
    refine .inr (fun e => ?_)
    have := World.ownsRow.lt h k hv
    injection e with e
    omega

end Go.Proofs.YtlmlchkolcmhpaaGreatDoor
end

section
/-
  Contracts: spec.l91People, spec.DrawPeopleText.
-/
namespace Go.Proofs.YtlmlchkolcmhpaaGreatDoor
open Go.RowKit

/-- The cells of people. -/
def pc : List Per → List Value
  | [] => []
  | p :: L => .int .i64 p.area :: .int .i64 p.job :: .int .i64 p.sex :: .int .i64 p.pay :: pc L
theorem pc_get : ∀ (L : List Per) (i : Nat), i < L.length → (pc L)[i * 4]? = some (.int .i64 (L.getD i per0).area) ∧ (pc L)[i * 4 + 1]? = some (.int .i64 (L.getD i per0).job) ∧
    (pc L)[i * 4 + 2]? = some (.int .i64 (L.getD i per0).sex) ∧ (pc L)[i * 4 + 3]? = some (.int .i64 (L.getD i per0).pay)
  | p :: L, 0, _ => ⟨rfl, rfl, rfl, rfl⟩
  | p :: L, i + 1, h => by
    have ih := pc_get L i (by simp at h; omega)
    rw [show (i + 1) * 4 = i * 4 + 4 by omega]
    exact ih
theorem pc_snoc (L : List Per) (a j s y : Int) : pc (L ++ [⟨a, j, s, y⟩]) = pc L ++ [.int .i64 a, .int .i64 j, .int .i64 s, .int .i64 y] := by
  induction L with
  | nil => rfl
  | cons p L ih =>
    show _ :: _ :: _ :: _ :: pc (L ++ _) = _
    rw [ih]
    rfl
/-- People in a slice of the call's own. -/
def OwnPpl (w : World) (base : Nat) (v : Value) (L : List Per) : Prop := w.ownsRow base 69 4 v L.length (pc L)
theorem OwnPpl.at_ {w : World} {base b n cap : Nat} {L : List Per} (h : OwnPpl w base (.slice (some ⟨b, 0, none⟩) n cap) L) {i : Nat} (hi : i < L.length) : PerAt w b (i * 4) (L.getD i per0) := by
  have hcl := fun i u hu => World.ownsRow.cells (g := b) h rfl i u hu
  obtain ⟨h0, h1, h2, h3⟩ := pc_get L i hi
  have e0 := hcl _ _ h0
  have e1 := hcl _ _ h1
  have e2 := hcl _ _ h2
  have e3 := hcl _ _ h3
  rw [add_none, Nat.zero_add] at e0 e1 e2 e3
  exact ⟨e0, e1, e2, e3⟩
theorem OwnPpl.ppl {w : World} {base : Nat} {v : Value} {L : List Per} (h : OwnPpl w base v L) : ∃ ao b cap, v = .slice ao L.length cap ∧ L.length ≤ cap ∧ cap ≤ 9223372036854775807 ∧ (0 < L.length → ao = some ⟨b, 0, none⟩ ∧ base ≤ b ∧ b < w.heap.size) ∧ Ppl w ao b 0 L := by
  obtain ⟨ao, b, cap, hv, h1, h2, h3, h4⟩ := orow_cells h
  refine ⟨ao, b, cap, hv, h1, h2, h3, fun hp => (h3 hp).1, fun i hi => ?_⟩
  obtain ⟨e0, e1, e2, e3⟩ := pc_get L i hi
  rw [Nat.zero_add]
  exact ⟨h4 _ _ e0, h4 _ _ e1, h4 _ _ e2, h4 _ _ e3⟩

/-- People that were drawn. -/
def PplD (rb : Nat) (w : World) (e : Ending) (w' : World) : Prop :=
  ∃ (ao : Option Addr) (b cap : Nat) (L : List Per), e = .returned (.slice ao L.length cap) ∧ Ppl w' ao b 0 L ∧ L.length ≤ cap ∧ cap ≤ 9223372036854775807 ∧ L.length ≤ 12 ∧ Fr rb w w' ∧ ∃ q, IsRd w' rb q ∧ q ≤ 2000 ∧ OwnPpl w' w.heap.size (.slice ao L.length cap) L
def PayOk (L : List Per) : Prop := ∀ i, i < L.length → 0 ≤ (L.getD i per0).pay ∧ (L.getD i per0).pay ≤ 999
theorem PayOk.snoc {L : List Per} (h : PayOk L) {a j s y : Int} (hy : 0 ≤ y ∧ y ≤ 999) : PayOk (L ++ [⟨a, j, s, y⟩]) := fun i hi => by
  by_cases e : i < L.length
  · rw [List.getD_eq_getElem?_getD, List.getElem?_append_left e, ← List.getD_eq_getElem?_getD]; exact h i e
  · obtain rfl : i = L.length := by simp at hi; omega
    simp [List.getD_eq_getElem?_getD]; exact hy

theorem only_set {pb o : Nat} (w : World) (u : Value) : Only pb w (w.setCell ⟨pb, o, none⟩ u) := ⟨rfl, rfl, rfl, by simp [World.setCell], fun k hk => Below.heap_setCell _ _ _ _ hk⟩
theorem own_only2 {w w' : World} {pb base size n : Nat} {e : TypeId} {v : Value} {cs : List Value} (h : w.ownsRow base e size v n cs) (ho : Only pb w w') (hb : ∀ k, v.ownBlock = some k → k ≠ pb) : w'.ownsRow base e size v n cs := by
  refine World.ownsRow.kept (row := some pb) h ⟨ho.1, ho.2.1, ho.2.2.1, Nat.le_of_eq ho.2.2.2.1.symm, fun k _ hne => ho.2.2.2.2 k (fun e => hne (by rw [e]))⟩ ?_
  cases hv : v.ownBlock with
  | none => exact .inl rfl
  | some k => exact .inr (fun e => hb k hv (by injection e))
theorem own_blk {b k n cap : Nat} (h : (Value.slice (some ⟨b, 0, none⟩) n cap).ownBlock = some k) : b = k := by simpa [Value.ownBlock] using h
theorem Only.below2 {pb B : Nat} {w w' : World} (h : Only pb w w') (hB : B ≤ pb) : Below B w w' := ⟨h.1, h.2.1, h.2.2.1, Nat.le_of_eq h.2.2.2.1.symm, fun k hk => h.2.2.2.2 k (by omega)⟩

theorem orow_set {w : World} {base size n b m cap r : Nat} {e : TypeId} {cs : List Value} {u : Value} (h : w.ownsRow base e size (.slice (some ⟨b, 0, none⟩) m cap) n cs) : (w.setCell ⟨b, r, none⟩ u).ownsRow base e size (.slice (some ⟨b, 0, none⟩) m cap) n (cs.set r u) := by
  refine ⟨by rw [List.length_set]; exact h.1, ?_⟩
  rcases h.2 with ⟨h0, _⟩ | ⟨g, c2, cur, hv, hg, hh, h1, h2, h3, h4⟩
  · cases h0
  · injection hv with e1 e2 e3
    injection e1 with e1
    injection e1 with e1 _ _
    subst e1 e2 e3
    refine .inr ⟨b, cap, cur.setIfInBounds r u, rfl, hg, ?_, h1, h2, by simpa using h3, ?_⟩
    · have hlt := (Array.getElem?_eq_some_iff.1 hh).1
      have h' : w.heap[b] = .cells cur e (0, 0) := by simpa [Array.getElem?_eq_getElem hlt] using hh
      show (w.heap.modify b _)[b]? = _
      rw [Array.getElem?_eq_getElem (by simpa using hlt), Array.getElem_modify_self, h']
      rfl
    · rw [Array.toList_setIfInBounds, List.take_set, h4]
theorem OwnPpl.set0 {w : World} {base b n cap r : Nat} {L : List Per} {u : Value} {p' : Per} (h : OwnPpl w base (.slice (some ⟨b, 0, none⟩) n cap) L) (hp : pc (L.set 0 p') = (pc L).set r u) : OwnPpl (w.setCell ⟨b, r, none⟩ u) base (.slice (some ⟨b, 0, none⟩) n cap) (L.set 0 p') := by
  unfold OwnPpl at h ⊢
  rw [hp, List.length_set]
  exact orow_set h
theorem pc_set_area {L : List Per} (h : 0 < L.length) (x : Int) : pc (L.set 0 ⟨x, (L.getD 0 per0).job, (L.getD 0 per0).sex, (L.getD 0 per0).pay⟩) = (pc L).set 0 (.int .i64 x) := by
  cases L with
  | nil => simp at h
  | cons p L => rfl
theorem pc_set_pay {L : List Per} (h : 0 < L.length) {a j s y : Int} (hp : L.getD 0 per0 = ⟨a, j, s, y⟩) (x : Int) : pc (L.set 0 ⟨a, j, s, x⟩) = (pc L).set 3 (.int .i64 x) := by
  cases L with
  | nil => simp at h
  | cons p L => rw [List.getD_cons_zero] at hp; subst hp; rfl
theorem pc_set_sex {L : List Per} (h : 0 < L.length) {a j s y : Int} (hp : L.getD 0 per0 = ⟨a, j, s, y⟩) (x : Int) : pc (L.set 0 ⟨a, j, x, y⟩) = (pc L).set 2 (.int .i64 x) := by
  cases L with
  | nil => simp at h
  | cons p L => rw [List.getD_cons_zero] at hp; subst hp; rfl
theorem own_frozen {w : World} {base b n cap : Nat} {L : List Per} (h : OwnPpl w base (.slice (some ⟨b, 0, none⟩) n cap) L) (o : Nat) : w.frozen? ⟨b, o, none⟩ = false := by
  rcases h.2 with ⟨h0, _⟩ | ⟨g2, cap2, cur2, hv2, hb2, hh2, hn2, hm2, hs2, _⟩
  · cases h0
  · injection hv2 with e1 e2 e3
    injection e1 with e1
    injection e1 with e1 _ _
    subst e1
    simp [World.frozen?, hh2]
theorem ppl_set0 {w : World} {b r : Nat} {L : List Per} {u : Value} {p' : Per} (h : Ppl w (some ⟨b, 0, none⟩) b 0 L) (h0 : 0 < L.length) (hr : r < 4) (hp : PerAt (w.setCell ⟨b, r, none⟩ u) b 0 p') : Ppl (w.setCell ⟨b, r, none⟩ u) (some ⟨b, 0, none⟩) b 0 (L.set 0 p') := by
  refine ⟨fun _ => rfl, fun i hi => ?_⟩
  rw [List.length_set] at hi
  have hg : (L.set 0 p').getD i per0 = if i = 0 then p' else L.getD i per0 := getD_set L 0 i p' per0 h0
  rw [hg]
  by_cases e : i = 0
  · subst e
    rw [if_pos rfl]
    exact hp
  · rw [if_neg e]
    obtain ⟨e0, e1, e2, e3⟩ := h.2 i hi
    have key : ∀ o, r ≠ o → (w.setCell ⟨b, r, none⟩ u).cell? ⟨b, o, none⟩ = w.cell? ⟨b, o, none⟩ := fun o ho => World.cell?_setCell_other _ _ _ _ (fun e => ho (by have := congrArg Addr.off e; first | exact this | exact this.symm))
    exact ⟨(key _ (by omega)).trans e0, (key _ (by omega)).trans e1, (key _ (by omega)).trans e2, (key _ (by omega)).trans e3⟩
theorem cs_other {w : World} {b r o : Nat} {u : Value} (h : r ≠ o) : (w.setCell ⟨b, r, none⟩ u).cell? ⟨b, o, none⟩ = w.cell? ⟨b, o, none⟩ := World.cell?_setCell_other _ _ _ _ (fun e => h (by have := congrArg Addr.off e; first | exact this | exact this.symm))
theorem cs_same {w : World} {b r : Nat} {u v : Value} (h : w.cell? ⟨b, r, none⟩ = some v) : (w.setCell ⟨b, r, none⟩ u).cell? ⟨b, r, none⟩ = some u := World.cell?_setCell_same' _ _ _ (by rw [h]; rfl)
theorem pplD_mk {rb n cap b : Nat} {ao : Option Addr} {w w' : World} {L : List Per} (h : Ppl w' ao b 0 L) (hl : L.length = n) (h1 : n ≤ cap) (h2 : cap ≤ 9223372036854775807) (h3 : n ≤ 12) (hf : Fr rb w w') (hrd : ∃ q, IsRd w' rb q ∧ q ≤ 2000) (ho : OwnPpl w' w.heap.size (.slice ao n cap) L) : PplD rb w (.returned (.slice ao n cap)) w' := by
  subst hl
  obtain ⟨q, hq1, hq2⟩ := hrd
  exact ⟨ao, b, cap, L, rfl, h, h1, h2, h3, hf, q, hq1, hq2, ho⟩

set_option maxHeartbeats 4000000 in
set_option maxRecDepth 100000 in
theorem peopleD (rb : Nat) (most p : Int) (w : World) (h : IsRd w rb p) (hp : p ≤ 1000) (hm0 : 0 ≤ most) (hm : most ≤ 12) :
    Calls Tryz.prog 24 #[.pointer (some ⟨rb, 0, none⟩), .int .i64 most] w (PplD rb w) := by
  have HI := Lib.hid h
  have hlt0 := h.lt
  clear h
  have HO0 : Hid (OwnPpl (w.alloc (.cells #[] 69)) w.heap.size (.slice (some ⟨w.heap.size, 0, none⟩) 0 0) []) := by
    have := World.ownsRow_lit (base := w.heap.size) (e := 69) (size := 4) w #[] 0 (Nat.le_refl _) (by unfold maxLen; omega) (by simp)
    show OwnPpl _ _ _ _
    simpa [OwnPpl, pc] using this
  have HRa := Lib.hid (HI.out.alloc (.cells #[] 69))
  have HFa := Lib.hid ((Fr.refl rb w).alloc (.cells #[] 69))
  go_enter Tryz.func24, Tryz.ntmps24
  go_wp2_with fail
  refine (pick_any rb (most + 1) p _ HRa.out (by omega) (by omega)).mono ?_
  rintro e w1 ⟨n1, rfl, hn0, hn1, hrd1, ho1⟩
  have HR1 := Lib.hid hrd1
  have HF1 := Lib.hid (HFa.out.only ho1)
  have HO1 := Lib.hid (own_only HO0.out ho1 hlt0)
  obtain ⟨n, rfl⟩ := nat_of hn0
  have hn12 : n ≤ 12 := by omega
  clear hrd1 ho1 hn1 hn0 HO0 HRa HFa
  go_wp2_with fail
  go_loopw [5, 7] (fun s i wr => ∃ (k : Nat) (L : List Per) (q : Int), k ≤ n ∧ i = .int .i64 k ∧ OwnPpl wr w.heap.size s L ∧ L.length = k ∧ PayOk L ∧ IsRd wr rb q ∧ q ≤ p + 1 + 10 * k ∧ Fr rb w wr) (fun _ i _ => n - (intOf i).toNat)
  case atStart => exact ⟨0, [], _, Nat.zero_le _, rfl, HO1.out, rfl, fun i hi => absurd hi (by simp), HR1.out, by omega, HF1.out⟩
  case round =>
    clear HR1 HF1 HO1
    obtain ⟨k, L, q, hk, rfl, hown, hlk, hpay, hrd, hq, hf⟩ := hrel
    have HO := Lib.hid hown
    have HPAY := Lib.hid hpay
    have HR := Lib.hid hrd
    have HF := Lib.hid hf
    have hrlt := hrd.lt
    have hsw := hf.size
    clear hown hpay hrd hf
    obtain ⟨ao, b, cap, hv5, hc1, hc2, hao, -⟩ := HO.out.ppl
    rw [hlk] at hv5
    subst hv5
    by_cases hlt : k < n
    · go_wp2_with fail
      refine (personD rb q wr HR.out (by omega)).mono ?_
      rintro e w2 ⟨a, j, s, y, rfl, hy, hrd2, hf2⟩
      have HR2 := Lib.hid hrd2
      have HF2 := Lib.hid (HF.out.trans hf2)
      have hs2 := hf2.size
      have HO2 := Lib.hid (World.ownsRow.kept HO.out hf2 (by
        cases hv : (Value.slice ao k cap).ownBlock with
        | none => exact .inl rfl
        | some k => exact .inr (fun e => by have := World.ownsRow.lt HO.out k hv; injection e with e; omega)))
      clear hrd2 hf2
      have HO3 := Lib.hid (World.ownsRow.alloc HO2.out (.cells #[.int .i64 a, .int .i64 j, .int .i64 s, .int .i64 y] 69))
      have HR3 := Lib.hid (HR2.out.alloc (.cells #[.int .i64 a, .int .i64 j, .int .i64 s, .int .i64 y] 69))
      have HF3 := Lib.hid (HF2.out.alloc (.cells #[.int .i64 a, .int .i64 j, .int .i64 s, .int .i64 y] 69))
      by_cases hk0 : k = 0
      · have hk0f : ¬ 0 < k := by omega
        clear hk0
        have hs10 : w.heap.size ≤ (w2.alloc (.cells #[.int .i64 a, .int .i64 j, .int .i64 s, .int .i64 y] 69)).heap.size := HF3.out.size
        have HSN := Lib.hid (fun (v' : Value) (w9 : World) (hh : w9.ownsRow w.heap.size 69 4 v' (k + 1) (pc L ++ [.int .i64 a, .int .i64 j, .int .i64 s, .int .i64 y])) => (show OwnPpl w9 w.heap.size v' (L ++ [⟨a, j, s, y⟩]) by unfold OwnPpl; rw [pc_snoc, List.length_append, hlk]; exact hh))
        have HPN := Lib.hid (HPAY.out.snoc (a := a) (j := j) (s := s) (y := y) (by omega))
        have hl10 : Hid (L.length ≤ 1000000000) := Lib.hid (by omega)
        have HS10 := Lib.hid hs10
        clear hs10
        go_wp2_with (at_builtin; refine wpList_appH eltP rfl (.tmp 44) (.tmp 46) rfl w.heap.size _ _ _ rfl HO3.out [.int .i64 a, .int .i64 j, .int .i64 s, .int .i64 y] rfl (by intro u hu; simp at hu; rcases hu with rfl | rfl | rfl | rfl <;> rfl) rfl (w2.heap.size + 1) (by simp) rfl hl10.out HS10.out ?_)
        intro v' w9 ho9 hb9 hg9
        have HO9 := Lib.hid (HSN.out v' w9 ho9)
        have HF9 := Lib.hid (HF3.out.base hb9)
        have HR9 := Lib.hid (HR3.out.keep hb9 hlt0)
        clear ho9 hb9 hg9
        go_wp2_with fail
        go_roundw
        case rel => exact ⟨k + 1, _, q + 5, by omega, by go_num, HO9.out, by rw [List.length_append, hlk]; rfl, HPN.out, HR9.out, by omega, HF9.out⟩
        case measure => simp [intOf]; omega
      · have hk0t : 0 < k := by omega
        obtain ⟨rfl, hbB, hbl⟩ := hao (by omega)
        clear hk0
        go_wp2_with fail
        refine (pick_any rb 3 (q + 5) _ HR3.out (by omega) (by omega)).mono ?_
        rintro e w4 ⟨y3, rfl, hy30, hy31, hrd4, ho4⟩
        have HR4 := Lib.hid hrd4
        have HF4 := Lib.hid (HF3.out.only ho4)
        have HO4 := Lib.hid (own_only HO3.out ho4 hlt0)
        have hp4 : w4.rowIs w2.heap.size 69 4 (fun i => [Value.int .i64 a, .int .i64 j, .int .i64 s, .int .i64 y].getD i undef) := (World.rowIs_alloc w2 #[.int .i64 a, .int .i64 j, .int .i64 s, .int .i64 y] 69 (fun i => [Value.int .i64 a, .int .i64 j, .int .i64 s, .int .i64 y].getD i undef) (fun i hi => by
          have : i = 0 ∨ i = 1 ∨ i = 2 ∨ i = 3 := by simp at hi; omega
          rcases this with rfl | rfl | rfl | rfl <;> rfl)).of_block (ho4.2.2.2.2 w2.heap.size (by omega))
        have hpc0 : w4.cell? ⟨w2.heap.size, 0, none⟩ = some (.int .i64 a) := hp4.cell (i := 0) (by omega)
        have hpc1 : w4.cell? ⟨w2.heap.size, 1, none⟩ = some (.int .i64 j) := hp4.cell (i := 1) (by omega)
        have hpc2 : w4.cell? ⟨w2.heap.size, 2, none⟩ = some (.int .i64 s) := hp4.cell (i := 2) (by omega)
        have hpc3 : w4.cell? ⟨w2.heap.size, 3, none⟩ = some (.int .i64 y) := hp4.cell (i := 3) (by omega)
        have HP4 := Lib.hid hp4
        clear hrd4 ho4 hp4 hy31
        by_cases hy3 : y3 = 0
        · subst hy3
          go_wp2_with fail
          refine (pick_any rb k (q + 5 + 1) w4 HR4.out (by omega) (by omega)).mono ?_
          rintro e w5 ⟨ix, rfl, hix0, hix1, hrd5, ho5⟩
          obtain ⟨m, rfl⟩ := nat_of hix0
          have hmk : m < k := by omega
          have HR5 := Lib.hid hrd5
          have HF5 := Lib.hid (HF4.out.only ho5)
          have HO5 := Lib.hid (own_only HO4.out ho5 hlt0)
          have hp5 := HP4.out.of_block (ho5.2.2.2.2 w2.heap.size (by omega))
          have hqc0 : w5.cell? ⟨w2.heap.size, 0, none⟩ = some (.int .i64 a) := hp5.cell (i := 0) (by omega)
          have hqc1 : w5.cell? ⟨w2.heap.size, 1, none⟩ = some (.int .i64 j) := hp5.cell (i := 1) (by omega)
          have hqc2 : w5.cell? ⟨w2.heap.size, 2, none⟩ = some (.int .i64 s) := hp5.cell (i := 2) (by omega)
          have hqc3 : w5.cell? ⟨w2.heap.size, 3, none⟩ = some (.int .i64 y) := hp5.cell (i := 3) (by omega)
          have hqf0 := hp5.frozen 0
          have hqf1 := hp5.frozen 1
          have hqf2 := hp5.frozen 2
          have hqf3 := hp5.frozen 3
          have hpe := OwnPpl.at_ (show OwnPpl w5 w.heap.size _ L from HO5.out) (i := m) (by omega)
          have hpy := HPAY.out m (by omega)
          obtain ⟨P, hP⟩ : ∃ P, L.getD m per0 = P := ⟨_, rfl⟩
          rw [hP] at hpe hpy
          obtain ⟨a2, j2, s2, y2⟩ := P
          obtain ⟨e0, e1, e2, e3⟩ := hpe
          simp only at e0 e1 e2 e3 hpy
          obtain ⟨hy20, hy21⟩ := hpy
          have hmcap : m < cap := by omega
          have hpb : b ≠ w2.heap.size := by omega
          have hpb2 : w2.heap.size ≠ rb := by omega
          have HO45 := Lib.hid ho5
          clear hrd5 ho5 hp5 hix1 hP hpc0 hpc1 hpc2 hpc3
          go_wp2_with fail
          obtain ⟨w6, hw6⟩ : ∃ w6, ((((w5.setCell ⟨w2.heap.size, 0, none⟩ (.int .i64 a2)).setCell ⟨w2.heap.size, 1, none⟩ (.int .i64 j2)).setCell ⟨w2.heap.size, 2, none⟩ (.int .i64 s2)).setCell ⟨w2.heap.size, 3, none⟩ (.int .i64 y2)) = w6 := ⟨_, rfl⟩
          have ho6 : Only w2.heap.size w5 w6 := by
            rw [← hw6]
            exact (((only_set _ _).trans (only_set _ _)).trans (only_set _ _)).trans (only_set _ _)
          have hp6 : w6.rowIs w2.heap.size 69 4 (fun i => [Value.int .i64 a2, .int .i64 j2, .int .i64 s2, .int .i64 y2].getD i undef) := by
            rw [← hw6]
            refine ((((HP4.out.of_block (HO45.out.2.2.2.2 w2.heap.size (by omega))).set 0 (.int .i64 a2)).set 1 (.int .i64 j2)).set 2 (.int .i64 s2)).set 3 (.int .i64 y2) |>.congr (fun i hi => ?_)
            have : i = 0 ∨ i = 1 ∨ i = 2 ∨ i = 3 := by omega
            rcases this with rfl | rfl | rfl | rfl <;> rfl
          have HR6 := Lib.hid (HR5.out.keep (ho6.below2 (Nat.le_refl _)) (show rb < w2.heap.size by omega))
          have HF6 := Lib.hid (HF5.out.base (ho6.below2 (show w.heap.size ≤ w2.heap.size by omega)))
          have HO6 := Lib.hid (own_only2 HO5.out ho6 (fun k hk => by rw [← own_blk hk]; exact hpb))
          have hc60 : w6.cell? ⟨w2.heap.size, 0, none⟩ = some (.int .i64 a2) := hp6.cell (i := 0) (by omega)
          have hc61 : w6.cell? ⟨w2.heap.size, 1, none⟩ = some (.int .i64 j2) := hp6.cell (i := 1) (by omega)
          have hc62 : w6.cell? ⟨w2.heap.size, 2, none⟩ = some (.int .i64 s2) := hp6.cell (i := 2) (by omega)
          have hc63 : w6.cell? ⟨w2.heap.size, 3, none⟩ = some (.int .i64 y2) := hp6.cell (i := 3) (by omega)
          have hf63 := hp6.frozen 3
          rw [hw6]
          clear hw6 ho6 hqc0 hqc1 hqc2 hqc3 hqf0 hqf1 hqf2 hqf3 e0 e1 e2 e3
          have HP6 := Lib.hid hp6
          clear hp6
          go_region_with (go_at_call 26; refine (pick_any rb 3 (q + 5 + 1 + 1) w6.drew (IsRd.drew HR6.out) (by omega) (by omega)).mono ?_; rintro e w' ⟨yy, rfl, hyy0, hyy1, hrd', ho'⟩; have HO7 := Lib.hid ho'; have HRD := Lib.hid hrd'; have hyy2 : yy ≤ 2 := (by omega); have d0 := (Only.cell (b := w2.heap.size) (o := 0) ho' hpb2).trans hc60; have d1 := (Only.cell (b := w2.heap.size) (o := 1) ho' hpb2).trans hc61; have d2 := (Only.cell (b := w2.heap.size) (o := 2) ho' hpb2).trans hc62; have d3 := (Only.cell (b := w2.heap.size) (o := 3) ho' hpb2).trans hc63; have d4 := (Only.frozen (b := w2.heap.size) (o := 3) ho' hpb2).trans hf63; clear hrd' ho' hyy1)
          all_goals
            have z1 : IntKind.i64.wrap (100 * yy) = 100 * yy := IntWalk.i64_in _ ⟨by omega, by omega⟩
            have z2 : IntKind.i64.wrap (y2 + 100 * yy) = y2 + 100 * yy := IntWalk.i64_in _ ⟨by omega, by omega⟩
            rw [z1, z2]
            obtain ⟨y9, hy9⟩ : ∃ y9, (y2 + 100 * yy).tmod 1000 = y9 := ⟨_, rfl⟩
            rw [hy9]
            have hy90 : 0 ≤ y9 := by rw [← hy9]; exact Int.tmod_nonneg _ (by omega)
            have hy91 : y9 < 1000 := by rw [← hy9]; exact Int.tmod_lt_of_pos _ (by omega)
            clear hy9 z1 z2
            have ho7 := HO7.out
            have HRt := Lib.hid (HRD.out.keep (B := w2.heap.size) ((Below.refl w2.heap.size w').setCell (p := ⟨w2.heap.size, 3, none⟩) (Nat.le_refl _) (.int .i64 y9)) (by omega))
            have HFt := Lib.hid ((HF6.out.drew.only ho7).setCell (p := ⟨w2.heap.size, 3, none⟩) (show w.heap.size ≤ w2.heap.size by omega) (.int .i64 y9))
            have HOt := Lib.hid (own_only2 (own_only (World.ownsRow.drew HO6.out) ho7 hlt0) (only_set (pb := w2.heap.size) (o := 3) w' (.int .i64 y9)) (fun k hk => by rw [← own_blk hk]; exact hpb))
            clear ho7
            have hs10 : w.heap.size ≤ (w'.setCell ⟨w2.heap.size, 3, none⟩ (.int .i64 y9)).heap.size := HFt.out.size
            have HSN := Lib.hid (fun (v' : Value) (w9 : World) (hh : w9.ownsRow w.heap.size 69 4 v' (k + 1) (pc L ++ [.int .i64 a2, .int .i64 j2, .int .i64 s2, .int .i64 y9])) => (show OwnPpl w9 w.heap.size v' (L ++ [⟨a2, j2, s2, y9⟩]) by unfold OwnPpl; rw [pc_snoc, List.length_append, hlk]; exact hh))
            have HPN := Lib.hid (HPAY.out.snoc (a := a2) (j := j2) (s := s2) (y := y9) (by omega))
            have hl10 : Hid (L.length ≤ 1000000000) := Lib.hid (by omega)
            have HS10 := Lib.hid hs10
            clear hs10
            go_wp2_with (at_builtin; refine wpList_appH eltP rfl (.tmp 44) (.tmp 46) rfl w.heap.size _ _ _ rfl HOt.out [.int .i64 a2, .int .i64 j2, .int .i64 s2, .int .i64 y9] rfl (by intro u hu; simp at hu; rcases hu with rfl | rfl | rfl | rfl <;> rfl) rfl (w'.heap.size) (by simp) rfl hl10.out HS10.out ?_)
            intro v' w9 ho9 hb9 hg9
            have HO9 := Lib.hid (HSN.out v' w9 ho9)
            have HF9 := Lib.hid (HFt.out.base hb9)
            have HR9 := Lib.hid (HRt.out.keep hb9 hlt0)
            clear ho9 hb9 hg9
            go_wp2_with fail
            go_roundw
            case rel => exact ⟨k + 1, _, q + 5 + 1 + 1 + 1, by omega, by go_num, HO9.out, by rw [List.length_append, hlk]; rfl, HPN.out, HR9.out, by omega, HF9.out⟩
            case measure => simp [intOf]; omega
        · have hq0 : (y3 == 0) = false := by simpa using hy3
          clear hy3
          have hs10 : w.heap.size ≤ (w4).heap.size := HF4.out.size
          have HSN := Lib.hid (fun (v' : Value) (w9 : World) (hh : w9.ownsRow w.heap.size 69 4 v' (k + 1) (pc L ++ [.int .i64 a, .int .i64 j, .int .i64 s, .int .i64 y])) => (show OwnPpl w9 w.heap.size v' (L ++ [⟨a, j, s, y⟩]) by unfold OwnPpl; rw [pc_snoc, List.length_append, hlk]; exact hh))
          have HPN := Lib.hid (HPAY.out.snoc (a := a) (j := j) (s := s) (y := y) (by omega))
          have hl10 : Hid (L.length ≤ 1000000000) := Lib.hid (by omega)
          have HS10 := Lib.hid hs10
          clear hs10
          go_wp2_with (at_builtin; refine wpList_app eltP rfl (.tmp 44) (.tmp 46) rfl w.heap.size _ _ _ rfl HO4.out [.int .i64 a, .int .i64 j, .int .i64 s, .int .i64 y] rfl (by intro u hu; simp at hu; rcases hu with rfl | rfl | rfl | rfl <;> rfl) rfl rfl hl10.out HS10.out ?_)
          intro v' w9 ho9 hb9 hg9
          have HO9 := Lib.hid (HSN.out v' w9 ho9)
          have HF9 := Lib.hid (HF4.out.base hb9)
          have HR9 := Lib.hid (HR4.out.keep hb9 hlt0)
          clear ho9 hb9 hg9
          go_wp2_with fail
          go_roundw
          case rel => exact ⟨k + 1, _, q + 5 + 1, by omega, by go_num, HO9.out, by rw [List.length_append, hlk]; rfl, HPN.out, HR9.out, by omega, HF9.out⟩
          case measure => simp [intOf]; omega
    · obtain rfl : k = n := by omega
      rw [hlk] at hc1
      obtain ⟨ao', b', cap', hv', -, -, -, hppl⟩ := HO.out.ppl
      rw [hlk] at hv'
      by_cases hn0 : k = 0
      · have hn0f : ¬ 0 < k := by omega
        have HPP := Lib.hid hppl
        have HV := Lib.hid hv'
        clear hppl hv' hn0
        go_wp2_with fail
        go_ret
        have hv2 := HV.out
        injection hv2 with e1 _ e3
        subst e1
        exact pplD_mk HPP.out hlk hc1 hc2 hn12 HF.out ⟨_, HR.out, by omega⟩ HO.out
      · obtain ⟨rfl, hbB, hbl⟩ := hao (by omega)
        have hk0t : 0 < k := by omega
        have hL0 : 0 < L.length := by omega
        clear hn0 hppl hv'
        go_wp2_with fail
        refine (pick_any rb 40 q wr HR.out (by omega) (by omega)).mono ?_
        rintro e w2 ⟨y, rfl, hy0, hy1, hrd2, ho2⟩
        have HR2 := Lib.hid hrd2
        have HF2 := Lib.hid (HF.out.only ho2)
        have HO2 := Lib.hid (show OwnPpl w2 w.heap.size _ L from own_only HO.out ho2 hlt0)
        have hbl2 : b < w2.heap.size := by rw [ho2.2.2.2.1]; exact hbl
        have HPP : Hid (Ppl w2 (some ⟨b, 0, none⟩) b 0 L) := Lib.hid ⟨fun _ => rfl, fun i hi => by rw [Nat.zero_add]; exact HO2.out.at_ hi⟩
        obtain ⟨c0, c1, c2, c3⟩ := HO2.out.at_ (i := 0) hL0
        rw [Nat.zero_mul] at c0 c1 c2 c3
        have f0 := own_frozen HO2.out 0
        have f2 := own_frozen HO2.out 2
        have f3 := own_frozen HO2.out 3
        obtain ⟨P, hP⟩ : ∃ P, L.getD 0 per0 = P := ⟨_, rfl⟩
        rw [hP] at c0 c1 c2 c3
        obtain ⟨a0, j0, s0, y0⟩ := P
        have HPE := Lib.hid hP
        simp only [Nat.zero_add] at c0 c1 c2 c3
        have hcap0 : 0 < cap := by omega
        clear hP hrd2 ho2 hy1
        by_cases hy_0 : y = 0
        · subst hy_0
          have hlit := World.rowIs_alloc w2 #[.int .i64 (-1), .int .i64 4] 3 (fun i => [Value.int .i64 (-1), .int .i64 4].getD i undef) (fun i hi => by
            have : i = 0 ∨ i = 1 := by simp at hi; omega
            rcases this with rfl | rfl <;> rfl)
          have HLIT := Lib.hid hlit
          have HRA := Lib.hid (HR2.out.alloc (.cells #[.int .i64 (-1), .int .i64 4] 3))
          have HFA := Lib.hid (HF2.out.alloc (.cells #[.int .i64 (-1), .int .i64 4] 3))
          have HOA := Lib.hid (World.ownsRow.alloc HO2.out (.cells #[.int .i64 (-1), .int .i64 4] 3))
          have hlt2 := HR2.out.lt
          clear hlit c0 c1 c2 c3 f0 f2 f3
          go_wp2_with fail
          refine (pick_any rb 2 (q + 1) _ HRA.out (by omega) (by omega)).mono ?_
          rintro e w3 ⟨z, rfl, hz0, hz1, hrd3, ho3⟩
          have hlit3 := HLIT.out.of_block (ho3.2.2.2.2 w2.heap.size (by omega))
          have l0 : w3.cell? ⟨w2.heap.size, 0, none⟩ = some (.int .i64 (-1)) := hlit3.cell (i := 0) (by decide)
          have l1 : w3.cell? ⟨w2.heap.size, 1, none⟩ = some (.int .i64 4) := hlit3.cell (i := 1) (by decide)
          have HO3 := Lib.hid (show OwnPpl w3 w.heap.size _ L from own_only HOA.out ho3 hlt0)
          have HF3 := Lib.hid (HFA.out.only ho3)
          have HRD3 := Lib.hid hrd3
          have HP3 : Hid (Ppl w3 (some ⟨b, 0, none⟩) b 0 L) := Lib.hid ⟨fun _ => rfl, fun i hi => by rw [Nat.zero_add]; exact HO3.out.at_ hi⟩
          obtain ⟨c0, c1, c2, c3⟩ := HO3.out.at_ (i := 0) hL0
          rw [Nat.zero_mul] at c0 c1 c2 c3
          have f0 := own_frozen HO3.out 0
          have hz : z = 0 ∨ z = 1 := by omega
          clear hlit3 hrd3 ho3 hz1 hz0
          rcases hz with rfl | rfl
          all_goals
            go_wp2_with fail
            go_ret
            exact pplD_mk (ppl_set0 (r := 0) (p' := ⟨_, (L.getD 0 per0).job, (L.getD 0 per0).sex, (L.getD 0 per0).pay⟩) HP3.out hL0 (by omega) ⟨cs_same c0, (cs_other (by omega)).trans c1, (cs_other (by omega)).trans c2, (cs_other (by omega)).trans c3⟩) (by rw [List.length_set]; exact hlk) hc1 hc2 hn12 (HF3.out.setCell (p := ⟨b, 0, none⟩) hbB _) ⟨_, HRD3.out.keep ((Below.refl w.heap.size w3).setCell (p := ⟨b, 0, none⟩) hbB _) hlt0, by omega⟩ (HO3.out.set0 (pc_set_area hL0 _))
        · have hq0 : (y == 0) = false := by simpa using hy_0
          by_cases hy_1 : y = 1
          · subst hy_1
            clear hy_0
            go_wp2_with fail
            go_ret
            exact pplD_mk (ppl_set0 (r := 3) (p' := ⟨a0, j0, s0, 1000⟩) HPP.out hL0 (by omega) ⟨(cs_other (by omega)).trans c0, (cs_other (by omega)).trans c1, (cs_other (by omega)).trans c2, cs_same c3⟩) (by rw [List.length_set]; exact hlk) hc1 hc2 hn12 (HF2.out.setCell (p := ⟨b, 3, none⟩) hbB _) ⟨_, HR2.out.keep ((Below.refl w.heap.size w2).setCell (p := ⟨b, 3, none⟩) hbB _) hlt0, by omega⟩ (HO2.out.set0 (pc_set_pay hL0 HPE.out _))
          · have hq1 : (y == 1) = false := by simpa using hy_1
            by_cases hy_2 : y = 2
            · subst hy_2
              clear hy_0 hy_1
              go_wp2_with fail
              go_ret
              exact pplD_mk (ppl_set0 (r := 2) (p' := ⟨a0, j0, 2, y0⟩) HPP.out hL0 (by omega) ⟨(cs_other (by omega)).trans c0, (cs_other (by omega)).trans c1, cs_same c2, (cs_other (by omega)).trans c3⟩) (by rw [List.length_set]; exact hlk) hc1 hc2 hn12 (HF2.out.setCell (p := ⟨b, 2, none⟩) hbB _) ⟨_, HR2.out.keep ((Below.refl w.heap.size w2).setCell (p := ⟨b, 2, none⟩) hbB _) hlt0, by omega⟩ (HO2.out.set0 (pc_set_sex hL0 HPE.out _))
            · have hq2 : (y == 2) = false := by simpa using hy_2
              clear hy_0 hy_1 hy_2
              go_wp2_with fail
              go_ret
              exact pplD_mk HPP.out hlk hc1 hc2 hn12 HF2.out ⟨_, HR2.out, by omega⟩ HO2.out

/-- Drawn people, the reader forgotten. -/
def PplW (w : World) (e : Ending) (w' : World) : Prop :=
  ∃ (ao : Option Addr) (b cap : Nat) (L : List Per), e = .returned (.slice ao L.length cap) ∧ Ppl w' ao b 0 L ∧ L.length ≤ cap ∧ cap ≤ 9223372036854775807 ∧ L.length ≤ 12 ∧ Below w.heap.size w w'

end Go.Proofs.YtlmlchkolcmhpaaGreatDoor
end

section
/-
  What a line of a script does: the words' map, the state, the contract of a line of each kind.
-/
namespace Go.Proofs.YtlmlchkolcmhpaaGreatDoor
open Go.RowKit Go.Maps Go.WideShapes Go.ChangeMaps
open Go.TextMath (tvB mvB text word)

theorem keyS : Keyed Tryz.prog 9 := string_keyed Tryz.underlying9
/-- The words' map, made behind w0: it reads as D. -/
def MapS (w0 : World) (D : DataW Unit) (n : Nat) (W : World) : Prop := W.ownsMap Tryz.prog 9 (plainElem Tryz.prog 3) w0.heap.size n D ∧ Below w0.heap.size w0 W
theorem below_grown {w w' : World} {b B : Nat} (h : w.grownBy w' (some b)) (hB : B ≤ b) (hs : B ≤ w.heap.size) : Below B w w' := ⟨h.os, h.tape, h.output, h.size, fun k hk => h.block k (by omega) (fun e => by injection e with e; omega)⟩
theorem MapS.start (w0 : World) : MapS w0 want0 0 (w0.alloc (.map #[] 0)) := ⟨World.ownsMap_made _ _ _ _, (Below.refl _ _).alloc (Nat.le_refl _) _⟩
theorem small_wf {c : Int} (h : 0 ≤ c ∧ c ≤ 100) : (Lit.int .i64 c).wf = true := by
  have h1 : IntKind.i64.min = -9223372036854775808 := by decide
  have h2 : IntKind.i64.max = 9223372036854775807 := by decide
  show (decide (IntKind.i64.min ≤ c) && decide (c ≤ IntKind.i64.max)) = true
  rw [h1, h2]
  simp only [Bool.and_eq_true, decide_eq_true_eq]
  omega
/-- One entry of a map literal, at the operation. -/
theorem wpList_insert_own {H : Type} {P : Program} (w : World) {ops : Array Oper} {rest : List Oper} {o : Oper} {a : Act} {Q : Exit → Act → World → Prop}
    (hg : o.guard = none) (m x v : Operand) (t : TypeId) (hop : o.op = Op.insert t m x v)
    (k e : TypeId) (K : Keyed P k) (ht : P.underlying t = some (.map k e)) (R : Value → Option (DataW H × List MemPlace)) (b n : Nat) (D : DataW H)
    (hm : a.eval m = .map (some b)) (hown : w.ownsMap P k R b n D) (hn : n < maxLen) (key val : Value) (kl : Lit) (hx : a.eval x = key) (hv : a.eval v = val) (hkey : keyOf P k key = some kl)
    (d : DataW H) (ps : List MemPlace) (hval : R val = some (d, ps))
    (hK : ∀ w', w'.ownsMap P k R b (n + 1) (D.put kl d) → w.grownBy w' (some b) → wpList P ops Q rest (a.put o.dst undef) w') :
    wpList P ops Q (o :: rest) a w := by
  refine wpList_plain hg fun K' hK' => ?_
  obtain ⟨w', hrun, r1, r2⟩ := hown.update K ht hn hkey hval
  unfold Oper.wp
  simp [execOp, hop, hm, hx, hv, hrun, Result.andThen]
  exact hK' _ _ (hK w' r1 r2)
theorem ins_step (w0 : World) (D : DataW Unit) (n : Nat) (W : World) (hM : MapS w0 D n W) {ops : Array Oper} {rest : List Oper} {o : Oper} {a : Act} {Q : Exit → Act → World → Prop} (hg : o.guard = none) (m x v : Operand)
    (hop : o.op = Op.insert 61 m x v) (hm : a.eval m = .map (some w0.heap.size)) (key : ByteArray) (hx : a.eval x = .string key) (hks : key.size ≤ 100) (c : Int) (hv : a.eval v = .int .i64 c) (hc : 0 ≤ c ∧ c ≤ 100) (hn : n < 100)
    (hK : ∀ W', MapS w0 (D.put (kw key.data.toList) (dn c)) (n + 1) W' → wpList Tryz.prog ops Q rest (a.put o.dst undef) W') : wpList Tryz.prog ops Q (o :: rest) a W :=
  wpList_insert_own W hg m x v _ hop _ _ keyS Tryz.underlying61 _ _ n D hm hM.1 (by unfold maxLen; omega) _ _ _ hx hv (Go.WideMaps.keyOf_string_mk (P := Tryz.prog) Tryz.underlying9 (s := key) (by unfold maxLen; omega)) _ _ (plainElem_int (H := Unit) Tryz.underlying3 (small_wf hc))
    fun w' r1 r2 => hK w' ⟨r1, hM.2.trans (below_grown r2 (Nat.le_refl _) hM.2.size)⟩
theorem look_step (w0 : World) (W : World) (hM : MapS w0 want8 8 W) {ops : Array Oper} {rest : List Oper} {o : Oper} {a : Act} {Q : Exit → Act → World → Prop} (hg : o.guard = none) (m x : Operand)
    (hop : o.op = Op.lookup 61 m x true) (hm : a.eval m = .map (some w0.heap.size)) (key : ByteArray) (hx : a.eval x = .string key) (hks : key.size ≤ 1000) (c : Int) (k : Bool) (h1 : (wantN key.data.toList).getD 0 = c) (h2 : (wantN key.data.toList).isSome = k)
    (hK : wpList Tryz.prog ops Q rest (a.put o.dst (.tuple #[.int .i64 c, .bool k])) W) : wpList Tryz.prog ops Q (o :: rest) a W := by
  refine wpList_lookup_own_ok_int W hg m x _ hop 9 3 .i64 keyS Tryz.underlying61 Tryz.underlying3 (Tryz.zeroValue3 W) w0.heap.size 8 want8 hm hM.1 (.string key) (.string key.data.toList) hx
    (Go.WideMaps.keyOf_string_mk (P := Tryz.prog) Tryz.underlying9 (s := key) (by unfold maxLen; omega)) ?_
  intro c' hat _
  have e : c' = c := by
    have := hat.symm.trans (want_at key.data.toList)
    rw [← h1]
    exact dn_inj this
  subst e
  have e2 : Maps.has want8 (Lit.string key.data.toList) = k := (want_has key.data.toList).trans h2
  rw [e2]
  exact hK

/-- The script's state: its people. -/
def Sc (w : World) (blk : Nat) (L : List Per) : Prop := ∃ v, Boxed w blk 34 v ∧ OwnPpl w (blk + 1) v L
theorem Sc.lt {w : World} {blk : Nat} {L : List Per} (h : Sc w blk L) : blk < w.heap.size := by obtain ⟨_, h, -⟩ := h; exact h.lt
theorem boxed_bel {W V : World} {B : Nat} {t : TypeId} {v : Value} {n : Nat} (hb : Boxed W B t v) (h : Below n W V) (hn : B < n) : Boxed V B t v := (h.block B hn).trans hb
theorem Sc.keep {w w' : World} {blk : Nat} {L : List Per} (h : Sc w blk L) (hb : Below w.heap.size w w') : Sc w' blk L := by
  obtain ⟨v, h1, h2⟩ := h
  exact ⟨v, boxed_bel h1 hb h1.lt, orow_below h2 hb⟩
theorem Sc.ppl {w : World} {blk : Nat} {L : List Per} (h : Sc w blk L) : ∃ ao b cap, Boxed w blk 34 (.slice ao L.length cap) ∧ Ppl w ao b 0 L ∧ L.length ≤ cap ∧ cap ≤ 9223372036854775807 ∧ (0 < L.length → b ≠ blk) ∧ (ao = none → cap = 0) := by
  obtain ⟨v, h1, h2⟩ := h
  obtain ⟨ao, b, cap, rfl, k1, k2, k3, k4⟩ := OwnPpl.ppl h2
  refine ⟨ao, b, cap, h1, k4, k1, k2, fun h => by have := (k3 h).2.1; omega, fun e => ?_⟩
  subst e
  rcases h2.2 with ⟨h0, _⟩ | ⟨g2, cap2, cur2, hv2, _⟩
  · injection h0
  · injection hv2 with e1 _ _
    cases e1
theorem own_mono {w : World} {base base' size n : Nat} {e : TypeId} {v : Value} {cs : List Value} (h : w.ownsRow base e size v n cs) (hb : base' ≤ base) : w.ownsRow base' e size v n cs := by
  refine ⟨h.1, ?_⟩
  rcases h.2 with h0 | ⟨g, cap, cur, h1, h2, h3⟩
  · exact .inl h0
  · exact .inr ⟨g, cap, cur, h1, Nat.le_trans hb h2, h3⟩
def wsL (ss : List ByteArray) : List (List UInt8) := ss.map fun s => s.data.toList
theorem wsL_len (ss : List ByteArray) : (wsL ss).length = ss.length := List.length_map _
theorem wsL_at (ss : List ByteArray) {i : Nat} (h : i < ss.length) : (wsL ss).getD i [] = (ss.getD i ⟨#[]⟩).data.toList := by
  simp [wsL, List.getD_eq_getElem?_getD, List.getElem?_eq_getElem h]
def numsB (ss : List ByteArray) : List Int := (ss.drop 1).map fun s => scrN s.data.toList
theorem numsB_eq (ss : List ByteArray) : numsM (wsL ss) = numsB ss := by
  unfold numsM numsB wsL
  rw [← List.map_drop, List.map_map]
  rfl
theorem numsB_len (ss : List ByteArray) : (numsB ss).length = ss.length - 1 := by simp [numsB]
theorem numsB_at (ss : List ByteArray) {i : Nat} (h : i + 1 < ss.length) : (numsB ss).getD i 0 = scrN (ss.getD (i + 1) ⟨#[]⟩).data.toList := by
  have h2 : i < (numsB ss).length := by rw [numsB_len]; omega
  rw [List.getD_eq_getElem?_getD, List.getElem?_eq_getElem h2, Option.getD_some]
  simp [numsB, List.getD_eq_getElem?_getD, List.getElem?_eq_getElem h]
theorem nums_take {xs : List Int} {k : Nat} (h : k < xs.length) : xs.take (k + 1) = xs.take k ++ [xs.getD k 0] := take_one h

/-- What a line leaves. -/
def LineP (blk : Nat) (L : List Per) (ws : List (List UInt8)) (w : World) (e : Ending) (w' : World) : Prop :=
  ∃ (out : ByteArray) (ok : Bool), e = .returned (.tuple #[.string out, .bool ok]) ∧ (stepM L ws).2 = (if ok then out.data.toList else sNo) ∧ Sc w' blk (stepM L ws).1 ∧ Fr blk w w'
/-- A line of a kind does what it should. -/
def LineC (k : Nat) : Prop := ∀ (blk : Nat) (L : List Per) (sb scap : Nat) (ss : List ByteArray) (w : World), Sc w blk L → pplB L = true → RowS w (some ⟨sb, 0, none⟩) sb 0 ss → ss.length ≤ scap → scap ≤ 9223372036854775807 →
  (∀ x ∈ ss, x.size ≤ 500) → 1 ≤ ss.length → ss.length ≤ 501 → LibM w → kindM (wsL ss) = k →
  Calls Tryz.prog 19 #[.pointer (some ⟨blk, 0, none⟩), .slice (some ⟨sb, 0, none⟩) ss.length scap] w (LineP blk L (wsL ss) w)
theorem kind_1 {ws : List (List UInt8)} (h : kindM ws = 1) : ws.getD 0 [] = kPerson ∧ ws.length = 5 := by unfold kindM at h; (repeat' split at h) <;> first | assumption | (exfalso; omega)
theorem kind_2 {ws : List (List UInt8)} (h : kindM ws = 2) : ws.getD 0 [] = kDrop ∧ ws.length = 2 := by unfold kindM at h; (repeat' split at h) <;> first | assumption | (exfalso; omega)
theorem kind_3 {ws : List (List UInt8)} (h : kindM ws = 3) : ws.getD 0 [] = kCount ∧ ws.length = 4 := by unfold kindM at h; (repeat' split at h) <;> first | assumption | (exfalso; omega)
theorem kind_4 {ws : List (List UInt8)} (h : kindM ws = 4) : ws.getD 0 [] = kTable ∧ ws.length = 1 := by unfold kindM at h; (repeat' split at h) <;> first | assumption | (exfalso; omega)
theorem kind_5 {ws : List (List UInt8)} (h : kindM ws = 5) : ws.getD 0 [] = kSmall ∧ ws.length = 2 := by unfold kindM at h; (repeat' split at h) <;> first | assumption | (exfalso; omega)
theorem kind_6 {ws : List (List UInt8)} (h : kindM ws = 6) : ws.getD 0 [] = kGrow ∧ ws.length = 3 := by unfold kindM at h; (repeat' split at h) <;> first | assumption | (exfalso; omega)
theorem kind_7 {ws : List (List UInt8)} (h : kindM ws = 7) : ws.getD 0 [] = kRound ∧ ws.length = 2 := by unfold kindM at h; (repeat' split at h) <;> first | assumption | (exfalso; omega)
theorem kind_8 {ws : List (List UInt8)} (h : kindM ws = 8) : ws.getD 0 [] = kGroups ∧ ws.length = 1 := by unfold kindM at h; (repeat' split at h) <;> first | assumption | (exfalso; omega)
theorem step_1 {L : List Per} {ws : List (List UInt8)} (h : kindM ws = 1) : stepM L ws = if pplB (L ++ [perR (numsM ws)]) then (L ++ [perR (numsM ws)], sOk) else (L, sNo) := by unfold stepM; rw [h]; rfl
theorem step_2 {L : List Per} {ws : List (List UInt8)} (h : kindM ws = 2) : stepM L ws = if 0 ≤ (numsM ws).getD 0 0 ∧ (numsM ws).getD 0 0 < L.length then (without L ((numsM ws).getD 0 0).toNat, sOk) else (L, sNo) := by unfold stepM; rw [h]; rfl
theorem step_3 {L : List Per} {ws : List (List UInt8)} (h : kindM ws = 3) : stepM L ws = (L, countM L (numsM ws)) := by unfold stepM; rw [h]; rfl
theorem step_4 {L : List Per} {ws : List (List UInt8)} (h : kindM ws = 4) : stepM L ws = (L, text (tabO L) []) := by unfold stepM; rw [h]; rfl
theorem step_5 {L : List Per} {ws : List (List UInt8)} (h : kindM ws = 5) : stepM L ws = (L, text (tabO L) (maskS (tabO L) ((numsM ws).getD 0 0))) := by unfold stepM; rw [h]; rfl
theorem step_6 {L : List Per} {ws : List (List UInt8)} (h : kindM ws = 6) : stepM L ws = (L, growS (tabO L) ((numsM ws).getD 0 0) ((numsM ws).getD 1 0)) := by unfold stepM; rw [h]; rfl
theorem step_7 {L : List Per} {ws : List (List UInt8)} (h : kindM ws = 7) : stepM L ws = (L, roundM (tabO L) ((numsM ws).getD 0 0)) := by unfold stepM; rw [h]; rfl
theorem step_8 {L : List Per} {ws : List (List UInt8)} (h : kindM ws = 8) : stepM L ws = (L, groupsM L) := by unfold stepM; rw [h]; rfl
theorem word_is {s : ByteArray} {l : List UInt8} (h : s.data.toList = l) : s = ⟨l.toArray⟩ := by
  apply ByteArray.ext
  apply Array.toList_inj.1
  rw [h]
end Go.Proofs.YtlmlchkolcmhpaaGreatDoor
end

section
/-
  Plain mathematics: what the given scripts print.
-/
namespace Go.Proofs.YtlmlchkolcmhpaaGreatDoor
open Go.RowKit
open Go.TextMath (tvB mvB text word)
open Go.ParseMath

/-- The last line of all. -/
def endL (n : Nat) : List UInt8 := sPeople ++ word (n : Int) ++ [10]
def lTable : List UInt8 := kTable
def lSmall (d : UInt8) : List UInt8 := kSmall ++ [32, d]
end Go.Proofs.YtlmlchkolcmhpaaGreatDoor
end

section
/-
  Plain mathematics: what a line prints is short; pieces of a script.
-/
namespace Go.Proofs.YtlmlchkolcmhpaaGreatDoor
open Go.RowKit
open Go.TextMath (tvB mvB text word)
open Go.ParseMath

theorem text_short4 {T : List (List Int)} (M : List (List Bool)) (hT : Fit T) (h4 : T.length ≤ 4) : (text T M).length ≤ 200 := by
  have := text_short (M := M) hT T.length (Nat.le_refl _)
  rw [List.take_length] at this
  omega
theorem fit_one {r : List Int} (h1 : 1 ≤ r.length) (h4 : r.length ≤ 4) (h : ∀ n ∈ r, 0 ≤ n ∧ n ≤ 1000000) : Fit [r] := by
  refine ⟨by simp, fun i hi => ?_⟩
  obtain rfl : i = 0 := by simp at hi; omega
  refine ⟨h1, h4, fun j hj => ?_⟩
  simp only [List.getD_cons_zero] at hj ⊢
  rw [List.getD_eq_getElem?_getD, List.getElem?_eq_getElem hj, Option.getD_some]
  exact h _ (List.getElem_mem hj)
theorem many_le {L : List Per} (h : pplB L = true) {a j s : Int} (ha : askB a j s = true) : 0 ≤ manyP L a j s ∧ manyP L a j s ≤ 40 := by
  have h40 := (ppl_t.1 h).1
  unfold manyP
  rw [h, ha]
  have := List.length_filter_le (isP a j s) L
  simp
  omega
theorem pay_le {L : List Per} (h : pplB L = true) {a j s : Int} (ha : askB a j s = true) : 0 ≤ payP L a j s ∧ payP L a j s ≤ 40000 := by
  have h40 := (ppl_t.1 h).1
  unfold payP
  rw [h, ha]
  have h1 := List.length_filter_le (isP a j s) L
  have h2 := pays_le (L.filter (isP a j s)) fun p hp => ppl_all h p (List.mem_filter.1 hp).1
  simp only [Bool.and_self, if_true]
  omega
theorem fit_count {L : List Per} (h : pplB L = true) {a j s : Int} (ha : askB a j s = true) : Fit [[manyP L a j s, payP L a j s]] := by
  refine fit_one (by simp) (by simp) fun n hn => ?_
  have h1 := many_le h ha
  have h2 := pay_le h ha
  simp only [List.mem_cons, List.not_mem_nil, or_false] at hn
  rcases hn with rfl | rfl <;> omega
theorem least_le (L : List Per) : 0 ≤ leastG L ∧ leastG L ≤ L.length := by
  obtain ⟨⟨h1, _⟩, h3⟩ := fold_min (fun p => (sizeG L p : Int)) L L.length
  refine ⟨?_, h1⟩
  show 0 ≤ L.foldl _ _
  rcases h3 with h3 | ⟨p, _, h3⟩ <;> rw [h3] <;> omega
theorem fit_groups {L : List Per} (h : pplB L = true) : Fit [[leastG L, (manyG L : Int), (aloneG L : Int)]] := by
  have h40 := (ppl_t.1 h).1
  refine fit_one (by simp) (by simp) fun n hn => ?_
  have h1 := least_le L
  have h2 : manyG L ≤ L.length := by
    have := List.countP_le_length (p := fun k => !((L.take k).any (sameG (L.getD k per0)))) (l := List.range L.length)
    rw [List.length_range] at this
    exact this
  have h3 : aloneG L ≤ L.length := List.countP_le_length
  simp only [List.mem_cons, List.not_mem_nil, or_false] at hn
  rcases hn with rfl | rfl | rfl <;> omega
theorem fit_near {T : List (List Int)} (h : tvB T = true) {b : Int} (hb : baseB b = true) : Fit (nearT T b) := by
  obtain ⟨h1, h2, h3, h4, h5⟩ := tv_t.1 h
  unfold baseB at hb
  have hb := of_decide_eq_true hb
  refine ⟨by rw [nearT_len]; omega, fun i hi => ?_⟩
  rw [nearT_len] at hi
  obtain ⟨h6, h7⟩ := h5 i hi
  rw [nearT_row hi, List.length_map]
  refine ⟨by omega, by omega, fun j hj => ?_⟩
  have h8 := h7 j hj
  have h9 := near_le h8.1 hb.1
  rw [List.getD_eq_getElem?_getD, List.getElem?_map, List.getElem?_eq_getElem hj]
  rw [List.getD_eq_getElem?_getD, List.getElem?_eq_getElem hj] at h8 h9
  simp only [Option.map_some, Option.getD_some] at h8 h9 ⊢
  omega
theorem step_short {L : List Per} (h : pplB L = true) (ws : List (List UInt8)) : (stepM L ws).2.length ≤ 200 := by
  have hT := tv_fit (tabO_tv h)
  have h4 : (tabO L).length ≤ 4 := by rw [tabO_len]; exact Nat.le_refl _
  unfold stepM
  split
  · split <;> exact (by decide : 3 ≤ 200)
  · split <;> exact (by decide : 3 ≤ 200)
  · show (countM L _).length ≤ 200
    unfold countM
    split
    · rename_i ha
      exact text_short4 _ (fit_count h ha) (by simp)
    · decide
  · exact text_short4 _ hT h4
  · exact text_short4 _ hT h4
  · show (growS _ _ _).length ≤ 200
    unfold growS
    split
    · decide
    · exact text_short4 _ hT h4
  · show (roundM _ _).length ≤ 200
    unfold roundM
    split
    · rename_i hb
      exact text_short4 _ (fit_near (tabO_tv h) hb) (by rw [nearT_len]; exact h4)
    · decide
  · exact text_short4 _ (fit_groups h) (by simp)
  · exact (by decide : 5 ≤ 200)
theorem run_short {L : List Per} (h : pplB L = true) (ls : List (List (List UInt8))) : (runM L ls).2.length ≤ 200 * ls.length := by
  induction ls using snoc_ind with
  | h0 => simp [runM_nil]
  | hs l x ih =>
    rw [runM_snoc, List.length_append, List.length_append, List.length_singleton]
    have := step_short (runM_ok h l) x
    omega
theorem pplB_nil : pplB [] = true := by decide
/-- The words of the script's lines. -/
def linesM (s : List UInt8) : List (List (List UInt8)) := (cutL 10 s).dropLast.map (cutL 32)
theorem linesM_len (s : List UInt8) : (linesM s).length + 1 = (cutL 10 s).length := by
  unfold linesM
  rw [List.length_map, List.length_dropLast, cutL_length]
  omega
theorem linesM_take {s : List UInt8} {k : Nat} (h : k < (linesM s).length) : (linesM s).take (k + 1) = (linesM s).take k ++ [cutL 32 ((cutL 10 s).getD k [])] := by
  have h1 := linesM_len s
  rw [take_one (d := []) h]
  congr 2
  unfold linesM
  rw [List.getD_eq_getElem?_getD, List.getElem?_map, List.getElem?_dropLast, if_pos (by omega), List.getElem?_eq_getElem (by omega), List.getD_eq_getElem?_getD, List.getElem?_eq_getElem (by omega)]
  rfl
theorem linesM_mem {s : List UInt8} {k : Nat} (h : k < (linesM s).length) : (cutL 10 s).getD k [] ∈ (cutL 10 s).dropLast := by
  have h1 := linesM_len s
  rw [List.getD_eq_getElem?_getD, List.getElem?_eq_getElem (by omega), Option.getD_some]
  have : (cutL 10 s).dropLast[k]? = some (cutL 10 s)[k] := by rw [List.getElem?_dropLast, if_pos (by omega), List.getElem?_eq_getElem (by omega)]
  exact List.mem_of_getElem? this
end Go.Proofs.YtlmlchkolcmhpaaGreatDoor
end

section
/-
  A range over a function whose iterator keeps its state in a cell of its own (a captured variable): what such an iterator owes, and the law for its caller, whose body goes on or returns.
-/
namespace Go.Proofs.YtlmlchkolcmhpaaGreatDoor
open Go Go.RowKit

/-- The loop's two blocks, laid at the end of w: its record, and the block for deferred calls. -/
def Books (w : World) (r : Loop) (W : World) : Prop := W.heap[w.heap.size + 1]? = some (.loop r) ∧ W.heap[w.heap.size]? = some (.deferred (some []))
section
variable {w W W' : World} {r r' : Loop}
theorem Books.start (r : Loop) : Books w r ((w.alloc (.deferred (some []))).alloc (.loop r)) := by
  have h1 := World.alloc_heap_new (w.alloc (.deferred (some []))) (.loop r)
  rw [World.size_alloc] at h1
  exact ⟨h1, (Below.heap_alloc _ _ _ (by simp)).trans (World.alloc_heap_new w _)⟩
theorem Books.lt (h : Books w r W) : w.heap.size + 1 < W.heap.size := (Array.getElem?_eq_some_iff.1 h.1).1
theorem Books.cell (h : Books w r W) {B : Nat} (hB : B < w.heap.size) (v : Value) : Books w r (W.setCell ⟨B, 0, none⟩ v) :=
  ⟨(Below.heap_setCell W ⟨B, 0, none⟩ v _ (by show w.heap.size + 1 ≠ B; omega)).trans h.1, (Below.heap_setCell W ⟨B, 0, none⟩ v _ (by show w.heap.size ≠ B; omega)).trans h.2⟩
theorem Books.put (h : Books w r W) (r' : Loop) : Books w r' (W.putObj (w.heap.size + 1) (.loop r')) := ⟨World.putObj_heap_same h.lt, (World.putObj_heap_other (by omega)).trans h.2⟩
theorem Books.round (h : Books w r W) (hk : KeepsFrom w.heap.size W W') : Books w r W' := ⟨hk.same _ _ (by omega) h.1 rfl, hk.same _ _ (Nat.le_refl _) h.2 rfl⟩
theorem Books.deferred (h : Books w r W) (o : Obj) : (W.putObj (w.heap.size + 1) o).heap[w.heap.size]? = some (.deferred (some [])) := (World.putObj_heap_other (by omega)).trans h.2
end

/-- What an iterator owes that keeps its state in the one cell of block B: for every loop body that lets this cell be. -/
def StateIter {α : Type} (n : Nat) (P : Program) (g : Nat) (lb : Array Value) (encs : α → Array Value) (B : Nat) (Kp : World → World → Prop) (S Sp : List α → Prop) (w : World) : Prop :=
  ∀ (l : Nat) (J Jx : List α → World → Prop) (W : World), Below w.heap.size w W → (∀ pre V v, J pre V → J pre (V.setCell ⟨B, 0, none⟩ v)) →
    (∀ pre x V, J pre V → YieldAt Fence.wide (n - 1) P l (encs x) V fun e V' => (e = .returned (.bool true) ∧ J (pre ++ [x]) V' ∧ Kp V V') ∨ (e = .returned (.bool false) ∧ Jx (pre ++ [x]) V')) →
    J [] W → CallsIn Fence.wide n P g (#[.func (.yield l) #[] #[]] ++ lb) W fun e V => (∃ v, e = .returned v) ∧ ((∃ xs, S xs ∧ J xs V) ∨ (∃ pre, Sp pre ∧ Jx pre V))

/-- How a round's body is left: it goes on, or it returns. -/
def bodyOut {α : Type} (B : Nat) (Kp : World → World → Prop) (I Ix : List α → World → Prop) (xs : List α) (W : World) : Exit → Act → World → Prop
  | .normal, _, V => KeepsFrom B W V ∧ Kp W V ∧ I xs V
  | .ret, _, V => KeepsFrom B W V ∧ Ix xs V
  | _, _, _ => False

end Go.Proofs.YtlmlchkolcmhpaaGreatDoor
end
