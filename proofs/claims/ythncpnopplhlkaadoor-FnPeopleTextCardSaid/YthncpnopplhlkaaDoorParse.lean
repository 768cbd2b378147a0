/-
  Plain mathematics of reading texts: what lies between a byte; numbers of words; tables and people out of their texts.
-/
import Derived.Lib.Join
import Derived.Lib.ItoaNum
import Derived.Lib.AtoiTie
import Derived.Lib.AtoiAllCases
import Derived.Lib.Atoi
import Derived.Lib.Strings
import Derived.Test.YthncpnopplhlkaaDoorTextMath
namespace Go.ParseMath
open Go.Lib (join joinTail decDigits)
open Go.TextMath

/-- What lies between a byte. -/
def cutL (c : UInt8) : List UInt8 → List (List UInt8)
  | [] => [[]]
  | x :: r => if x = c then [] :: cutL c r else match cutL c r with
    | [] => [[x]]
    | w :: ws => (x :: w) :: ws

theorem cutL_cons (c x : UInt8) (r : List UInt8) : cutL c (x :: r) = if x = c then [] :: cutL c r else match cutL c r with
    | [] => [[x]]
    | w :: ws => (x :: w) :: ws := rfl

theorem cutL_ne (c : UInt8) (s : List UInt8) : cutL c s ≠ [] := by
  cases s with
  | nil => simp [cutL]
  | cons x r =>
    unfold cutL
    split
    · simp
    · split <;> simp

theorem cutL_none {c : UInt8} {u : List UInt8} (h : c ∉ u) : cutL c u = [u] := by
  induction u with
  | nil => rfl
  | cons x r ih =>
    rw [List.mem_cons, not_or] at h
    unfold cutL
    rw [if_neg (fun e => h.1 e.symm), ih h.2]

theorem cutL_at {c : UInt8} {u : List UInt8} (h : c ∉ u) (r : List UInt8) : cutL c (u ++ c :: r) = u :: cutL c r := by
  induction u with
  | nil => simp [cutL]
  | cons x u ih =>
    rw [List.mem_cons, not_or] at h
    rw [List.cons_append, cutL_cons, if_neg (fun e => h.1 e.symm), ih h.2]

/-- A last byte more. -/
theorem cutL_snoc (c : UInt8) (s : List UInt8) : cutL c (s ++ [c]) = cutL c s ++ [[]] := by
  induction s with
  | nil => simp [cutL]
  | cons x r ih =>
    rw [List.cons_append]
    unfold cutL
    rw [ih]
    by_cases h : x = c
    · rw [if_pos h, if_pos h]; rfl
    · rw [if_neg h, if_neg h]
      have := cutL_ne c r
      cases hc : cutL c r with
      | nil => exact absurd hc this
      | cons w ws => rfl

/-- Lines, each with its end. -/
theorem cutL_lines {c : UInt8} (ls : List (List UInt8)) (h : ∀ l ∈ ls, c ∉ l) : cutL c ((ls.map fun l => l ++ [c]).flatten) = ls ++ [[]] := by
  induction ls with
  | nil => rfl
  | cons l ls ih =>
    rw [List.map_cons, List.flatten_cons, List.append_assoc, List.singleton_append, cutL_at (h l (by simp)), ih fun x hx => h x (by simp [hx])]
    rfl

/-- Words with a byte between. -/
theorem cutL_join {c : UInt8} (ws : List (List UInt8)) (hne : ws ≠ []) (h : ∀ l ∈ ws, c ∉ l) : cutL c (join ws [c]) = ws := by
  cases ws with
  | nil => exact absurd rfl hne
  | cons x r =>
    rw [Lib.join_cons]
    clear hne
    induction r generalizing x with
    | nil => simp [joinTail, cutL_none (h x (by simp))]
    | cons y r ih =>
      have e : joinTail [c] (y :: r) = c :: (y ++ joinTail [c] r) := by simp [joinTail]
      rw [e, cutL_at (h x (by simp)), ih y fun l hl => h l (by simp at hl ⊢; right; exact hl)]

theorem cutL_length (c : UInt8) (s : List UInt8) : (cutL c s).length = s.count c + 1 := by
  induction s with
  | nil => rfl
  | cons x r ih =>
    unfold cutL
    by_cases h : x = c
    · rw [if_pos h, List.length_cons, ih]; subst h; simp
    · rw [if_neg h, List.count_cons]
      have hb : (x == c) = false := by simpa using h
      rw [hb]
      have := cutL_ne c r
      cases hc : cutL c r with
      | nil => exact absurd hc this
      | cons w ws => rw [hc] at ih; simpa using ih

/-- No piece holds the byte. -/
theorem cutL_mem {c : UInt8} {s l : List UInt8} (h : l ∈ cutL c s) : c ∉ l ∧ l.length ≤ s.length := by
  induction s generalizing l with
  | nil =>
    simp [cutL] at h
    subst h
    exact ⟨by simp, Nat.le_refl _⟩
  | cons x r ih =>
    unfold cutL at h
    by_cases hx : x = c
    · rw [if_pos hx, List.mem_cons] at h
      rcases h with rfl | h
      · exact ⟨by simp, by simp⟩
      · have := ih h
        exact ⟨this.1, by simp; omega⟩
    · rw [if_neg hx] at h
      cases hc : cutL c r with
      | nil => exact absurd hc (cutL_ne c r)
      | cons w ws =>
        rw [hc] at h
        simp only [List.mem_cons] at h
        rcases h with rfl | h
        · have := ih (l := w) (by rw [hc]; simp)
          refine ⟨?_, by simp; omega⟩
          rw [List.mem_cons, not_or]
          exact ⟨fun e => hx e.symm, this.1⟩
        · have := ih (l := l) (by rw [hc]; simp [h])
          exact ⟨this.1, by simp; omega⟩

/-- The number of digits, one behind the other. -/
def digS : Int → List UInt8 → Int
  | n, [] => n
  | n, b :: r => if b.toNat < 48 ∨ 57 < b.toNat then -1 else digS (10 * n + ((b.toNat : Int) - 48)) r
/-- The number of one to four digits, or -1. -/
def numS (l : List UInt8) : Int := if 1 ≤ l.length ∧ l.length ≤ 4 then digS 0 l else -1
/-- The rows of a text; what lies behind the last line's end is not read. -/
def rowsS (s : List UInt8) : List (List Int) := (cutL 10 s).dropLast.map fun l => (cutL 32 l).map numS

theorem digS_cons (n : Int) (b : UInt8) (r : List UInt8) : digS n (b :: r) = if b.toNat < 48 ∨ 57 < b.toNat then -1 else digS (10 * n + ((b.toNat : Int) - 48)) r := rfl

theorem digS_app (n : Int) (a b : List UInt8) (h : ∀ x ∈ a, 48 ≤ x.toNat ∧ x.toNat ≤ 57) : digS n (a ++ b) = digS (digS n a) b := by
  induction a generalizing n with
  | nil => rfl
  | cons x a ih =>
    have hx := h x (by simp)
    rw [List.cons_append, digS_cons, digS_cons, if_neg (by omega), if_neg (by omega)]
    exact ih _ fun y hy => h y (by simp [hy])

theorem dec_range (u : Nat) : ∀ x ∈ decDigits u, 48 ≤ x.toNat ∧ x.toNat ≤ 57 := by
  induction u using Nat.strongRecOn with
  | _ u ih =>
    intro x hx
    by_cases h : u < 10
    · rw [Lib.decDigits_one h] at hx
      simp only [List.mem_singleton] at hx
      subst hx
      rw [UInt8.toNat_ofNat']
      omega
    · rw [Lib.decDigits, dif_neg h, List.mem_append] at hx
      rcases hx with hx | hx
      · exact ih (u / 10) (by omega) x hx
      · simp only [List.mem_singleton] at hx
        subst hx
        rw [UInt8.toNat_ofNat']
        omega

theorem digS_dec (u : Nat) : digS 0 (decDigits u) = u := by
  induction u using Nat.strongRecOn with
  | _ u ih =>
    by_cases h : u < 10
    · rw [Lib.decDigits_one h]
      unfold digS
      rw [UInt8.toNat_ofNat', if_neg (by omega)]
      unfold digS
      omega
    · rw [Lib.decDigits, dif_neg h, digS_app _ _ _ (dec_range _), ih (u / 10) (by omega)]
      unfold digS
      rw [UInt8.toNat_ofNat', if_neg (by omega)]
      unfold digS
      omega

theorem dec_len {u : Nat} (h : u < 10000) : 1 ≤ (decDigits u).length ∧ (decDigits u).length ≤ 4 := by
  rw [Lib.decDigits_length]
  refine ⟨Lib.nDigits_pos u, ?_⟩
  by_cases h0 : u < 10
  · rw [Lib.nDigits_small h0]; omega
  · rw [Lib.nDigits_big h0]
    by_cases h1 : u / 10 < 10
    · rw [Lib.nDigits_small h1]; omega
    · rw [Lib.nDigits_big h1]
      by_cases h2 : u / 10 / 10 < 10
      · rw [Lib.nDigits_small h2]; omega
      · rw [Lib.nDigits_big h2, Lib.nDigits_small (by omega)]; omega

theorem numS_dec {u : Nat} (h : u < 10000) : numS (decDigits u) = u := by
  unfold numS
  rw [if_pos (dec_len h), digS_dec]

/-- The number that Atoi finds, or 0; whether it finds one. -/
def valI (l : List UInt8) : Int := match Lib.atoiAll l with
  | .ok v => v
  | _ => 0
def okI (l : List UInt8) : Bool := match Lib.atoiAll l with
  | .ok _ => true
  | _ => false

theorem digitVal_dec {x : UInt8} (h : 48 ≤ x.toNat ∧ x.toNat ≤ 57) : Lib.digitVal x = some (x.toNat - 48) := by
  unfold Lib.digitVal
  simp [h.1, h.2]

theorem decFrom_digS (l : List UInt8) (h : ∀ x ∈ l, 48 ≤ x.toNat ∧ x.toNat ≤ 57) (n : Nat) : ∃ m : Nat, Lib.decFrom n l = some m ∧ digS n l = m := by
  induction l generalizing n with
  | nil => exact ⟨n, rfl, rfl⟩
  | cons x r ih =>
    have hx := h x (by simp)
    obtain ⟨m, h1, h2⟩ := ih (fun y hy => h y (by simp [hy])) (n * 10 + (x.toNat - 48))
    refine ⟨m, ?_, ?_⟩
    · unfold Lib.decFrom
      rw [digitVal_dec hx]
      exact h1
    · unfold digS
      rw [if_neg (by omega), ← h2]
      congr 1
      omega

theorem atoi_dec {u : Nat} (h : u < 10000) : Lib.atoiAll (decDigits u) = .ok (u : Int) := by
  have hl := dec_len h
  have hr := dec_range u
  obtain ⟨m, h1, h2⟩ := decFrom_digS _ hr 0
  have hm : m = u := by
    have := digS_dec u
    have h3 : digS 0 (decDigits u) = (m : Int) := h2
    omega
  subst hm
  obtain ⟨l, hd⟩ : ∃ l, decDigits m = l := ⟨_, rfl⟩
  rw [hd] at hl hr h1 ⊢
  cases l with
  | nil => simp at hl
  | cons b r =>
    have hb := hr b (by simp)
    rw [Lib.atoiAll_plain b r (by omega) (by omega), Lib.signless_short (by omega)]
    have e : Lib.decNat (b :: r) = Lib.decFrom 0 (b :: r) := rfl
    rw [e, h1]
    rfl
theorem valI_dec {u : Nat} (h : u < 10000) : valI (decDigits u) = u := by unfold valI; rw [atoi_dec h]
theorem okI_dec {u : Nat} (h : u < 10000) : okI (decDigits u) = true := by unfold okI; rw [atoi_dec h]

/-- The numbers of a line; whether there are at most so many, each a number. -/
def lineV (l : List UInt8) : List Int := (cutL 32 l).map valI
def lineOk (most : Nat) (l : List UInt8) : Bool := decide ((cutL 32 l).length ≤ most) && (cutL 32 l).all okI
/-- A text without a last line's end. -/
def trim (s : List UInt8) : List UInt8 := Lib.trimSuffix s [10]
/-- The rows that are read; whether there are at most so many, each read. -/
def readV (s : List UInt8) : List (List Int) := (cutL 10 (trim s)).map lineV
def readOk (most : Nat) (s : List UInt8) : Bool := decide ((cutL 10 (trim s)).length ≤ most) && (cutL 10 (trim s)).all (lineOk 4)

/-- Rows that can be read back. -/
def OkT (T : List (List Int)) : Prop := ∀ r ∈ T, 1 ≤ r.length ∧ ∀ n ∈ r, 0 ≤ n ∧ n < 10000
theorem OkT.tail {r : List Int} {T : List (List Int)} (h : OkT (r :: T)) : OkT T := fun x hx => h x (by simp [hx])

def lineOf (r : List Int) : List UInt8 := join (r.map word) [32]

theorem text_eq (T : List (List Int)) : text T [] = ((T.map lineOf).map fun l => l ++ [10]).flatten := by
  unfold text
  congr 1
  apply List.ext_getElem
  · simp
  · intro i h1 h2
    simp [line, lineOf, rowW_none]

theorem no_word (c : UInt8) (hc : c.toNat < 48) (n : Int) : c ∉ word n := fun h => by
  have := dec_range n.toNat c h
  omega
theorem no_line (r : List Int) : (10 : UInt8) ∉ lineOf r := by
  unfold lineOf
  cases r with
  | nil => simp [Lib.join]
  | cons a r =>
    rw [List.map_cons, Lib.join_cons, List.mem_append, not_or]
    refine ⟨no_word 10 (by decide) a, ?_⟩
    induction r with
    | nil => simp [joinTail]
    | cons b r ih =>
      have e : joinTail [32] ((b :: r).map word) = 32 :: (word b ++ joinTail [32] (r.map word)) := by simp [joinTail]
      rw [e, List.mem_cons, List.mem_append, not_or, not_or]
      exact ⟨by decide, no_word 10 (by decide) b, ih⟩

theorem cut_text (T : List (List Int)) : cutL 10 (text T []) = T.map lineOf ++ [[]] := by
  rw [text_eq]
  exact cutL_lines _ fun l hl => by
    obtain ⟨r, _, rfl⟩ := List.mem_map.1 hl
    exact no_line r

theorem cut_line {r : List Int} (h : 1 ≤ r.length) : cutL 32 (lineOf r) = r.map word := by
  unfold lineOf
  refine cutL_join _ (fun e => ?_) fun l hl => ?_
  · rw [List.map_eq_nil_iff] at e
    subst e
    simp at h
  · obtain ⟨n, _, rfl⟩ := List.mem_map.1 hl
    exact no_word 32 (by decide) n

theorem map_word {f : List UInt8 → Int} (hf : ∀ u : Nat, u < 10000 → f (decDigits u) = u) {r : List Int} (h : ∀ n ∈ r, 0 ≤ n ∧ n < 10000) : (r.map word).map f = r := by
  rw [List.map_map]
  conv => rhs; rw [← List.map_id r]
  apply List.map_congr_left
  intro n hn
  obtain ⟨h1, h2⟩ := h n hn
  show f (decDigits n.toNat) = n
  rw [hf _ (by omega)]
  omega

/-- The reference reads back what was written. -/
theorem rowsS_text {T : List (List Int)} (h : OkT T) : rowsS (text T []) = T := by
  unfold rowsS
  rw [cut_text, List.dropLast_concat, List.map_map]
  conv => rhs; rw [← List.map_id T]
  apply List.map_congr_left
  intro r hr
  obtain ⟨h1, h2⟩ := h r hr
  show (cutL 32 (lineOf r)).map numS = r
  rw [cut_line h1]
  exact map_word (fun u hu => numS_dec hu) h2

theorem text_last {T : List (List Int)} (h : T ≠ []) : ∃ u, text T [] = u ++ [10] := by
  obtain ⟨T', r, rfl⟩ : ∃ T' r, T = T' ++ [r] := ⟨T.dropLast, T.getLast h, (List.dropLast_concat_getLast h).symm⟩
  rw [text_snoc]
  unfold line
  exact ⟨_, (List.append_assoc _ _ _).symm⟩
theorem trim_snoc (u : List UInt8) : trim (u ++ [10]) = u := by
  unfold trim Lib.trimSuffix
  have e : Lib.hasSuffix (u ++ [10]) [10] = true := by
    unfold Lib.hasSuffix
    rw [List.isSuffixOf_iff_suffix]
    exact List.suffix_append _ _
  rw [e]
  simp

theorem cut_trim {T : List (List Int)} (h : T ≠ []) : cutL 10 (trim (text T [])) = T.map lineOf := by
  obtain ⟨u, hu⟩ := text_last h
  have h1 := cut_text T
  rw [hu, cutL_snoc] at h1
  rw [hu, trim_snoc]
  exact List.append_cancel_right h1

/-- The program reads back what was written. -/
theorem readV_text {T : List (List Int)} (hne : T ≠ []) (h : OkT T) : readV (text T []) = T := by
  unfold readV
  rw [cut_trim hne, List.map_map]
  conv => rhs; rw [← List.map_id T]
  apply List.map_congr_left
  intro r hr
  obtain ⟨h1, h2⟩ := h r hr
  show (cutL 32 (lineOf r)).map valI = r
  rw [cut_line h1]
  exact map_word (fun u hu => valI_dec hu) h2
theorem lineOk_line {most : Nat} {r : List Int} (h : 1 ≤ r.length) (hm : r.length ≤ most) (hr : ∀ n ∈ r, 0 ≤ n ∧ n < 10000) : lineOk most (lineOf r) = true := by
  unfold lineOk
  rw [cut_line h, Bool.and_eq_true, decide_eq_true_eq, List.length_map, List.all_eq_true]
  refine ⟨hm, fun l hl => ?_⟩
  obtain ⟨n, hn, rfl⟩ := List.mem_map.1 hl
  exact okI_dec (by have := hr n hn; omega)
theorem readOk_text {most : Nat} {T : List (List Int)} (hne : T ≠ []) (h : OkT T) (hm : T.length ≤ most) (h4 : ∀ r ∈ T, r.length ≤ 4) : readOk most (text T []) = true := by
  unfold readOk
  rw [cut_trim hne, Bool.and_eq_true, decide_eq_true_eq, List.length_map, List.all_eq_true]
  refine ⟨hm, fun l hl => ?_⟩
  obtain ⟨r, hr, rfl⟩ := List.mem_map.1 hl
  exact lineOk_line (h r hr).1 (h4 r hr) (h r hr).2

/-- A table's text as a list of bytes; none if it is none. -/
def ttL (T : List (List Int)) : List UInt8 := if tvB T then text T [] else []
theorem tvB_okT {T : List (List Int)} (h : tvB T = true) : T ≠ [] ∧ T.length ≤ 4 ∧ OkT T ∧ ∀ r ∈ T, r.length ≤ 4 := by
  simp only [tvB, decide_eq_true_eq] at h
  obtain ⟨h1, h2, h3, h4, h5⟩ := h
  have key : ∀ r ∈ T, (1 ≤ r.length ∧ ∀ n ∈ r, 0 ≤ n ∧ n < 10000) ∧ r.length ≤ 4 := by
    intro r hr
    obtain ⟨i, hi, rfl⟩ := List.getElem_of_mem hr
    obtain ⟨e1, e2⟩ := h5 i hi
    have e : T.getD i [] = T[i] := by simp [List.getD_eq_getElem?_getD, List.getElem?_eq_getElem hi]
    rw [e] at e1 e2
    refine ⟨⟨by omega, fun n hn => ?_⟩, by omega⟩
    obtain ⟨j, hj, rfl⟩ := List.getElem_of_mem hn
    have := e2 j hj
    rw [show (T[i]).getD j 0 = T[i][j] by simp [List.getD_eq_getElem?_getD, List.getElem?_eq_getElem hj]] at this
    omega
  refine ⟨fun e => ?_, h2, fun r hr => (key r hr).1, fun r hr => (key r hr).2⟩
  subst e
  simp at h1

theorem text_nil {T : List (List Int)} (h : T ≠ []) : text T [] ≠ [] := by
  obtain ⟨u, hu⟩ := text_last h
  rw [hu]
  simp

/-- What both find. -/
def tfB (s : List UInt8) : Bool := decide (s ≠ []) && decide (ttL (rowsS s) = s)
theorem tf_t {s : List UInt8} (h : tfB s = true) : tvB (rowsS s) = true ∧ text (rowsS s) [] = s ∧ readOk 4 s = true ∧ readV s = rowsS s := by
  unfold tfB at h
  rw [Bool.and_eq_true, decide_eq_true_eq, decide_eq_true_eq] at h
  obtain ⟨h1, h2⟩ := h
  cases hv : tvB (rowsS s) with
  | false =>
    unfold ttL at h2
    rw [hv] at h2
    exact absurd h2.symm h1
  | true =>
    unfold ttL at h2
    rw [hv, if_pos rfl] at h2
    obtain ⟨k1, k2, k3, k4⟩ := tvB_okT hv
    refine ⟨rfl, h2, ?_, ?_⟩
    · have := readOk_text (most := 4) k1 k3 k2 k4
      rw [h2] at this
      exact this
    · have := readV_text k1 k3
      rw [h2] at this
      exact this
theorem tf_of {s : List UInt8} (hv : tvB (readV s) = true) (ht : text (readV s) [] = s) : tfB s = true ∧ rowsS s = readV s := by
  obtain ⟨k1, k2, k3, k4⟩ := tvB_okT hv
  have hr := rowsS_text k3
  rw [ht] at hr
  refine ⟨?_, hr⟩
  unfold tfB
  rw [Bool.and_eq_true, decide_eq_true_eq, decide_eq_true_eq, hr]
  refine ⟨fun e => text_nil k1 (ht.trans e), ?_⟩
  unfold ttL
  rw [hv, if_pos rfl, ht]
/-- The program's test is the reference's. -/
theorem tf_iff (s : List UInt8) : tfB s = (readOk 4 s && (tvB (readV s) && decide (ttL (readV s) = s))) := by
  rw [Bool.eq_iff_iff, Bool.and_eq_true, Bool.and_eq_true, decide_eq_true_eq]
  constructor
  · intro h
    obtain ⟨h1, h2, h3, h4⟩ := tf_t h
    rw [h4]
    refine ⟨h3, h1, ?_⟩
    unfold ttL
    rw [h1, if_pos rfl, h2]
  · rintro ⟨_, h2, h3⟩
    unfold ttL at h3
    rw [h2, if_pos rfl] at h3
    exact (tf_of h2 h3).1

end Go.ParseMath
