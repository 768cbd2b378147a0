/-
  Plain mathematics: what reading people's texts finds.
-/
import Derived.Test.YthncpnopplhlkaaDoorPplText
import Derived.Test.YthncpnopplhlkaaDoorParseMore
namespace Go.Proofs.YthncpnopplhlkaaDoor
open Go.TextMath (text)
open Go.ParseMath

/-- A row of four numbers as a person. -/
def perR (r : List Int) : Per := ⟨r.getD 0 0, r.getD 1 0, r.getD 2 0, r.getD 3 0⟩
theorem perR_row (p : Per) : perR (rowOf p) = p := rfl
theorem row_perR {r : List Int} (h : r.length = 4) : rowOf (perR r) = r := by
  match r, h with
  | [a, b, c, d], _ => rfl
/-- The text of people. -/
def tpL (L : List Per) : List UInt8 := if pplB L then text (rowsOf L) [] else []
theorem tp_list (L : List Per) : (tp L).data.toList = tpL L := rfl
def all4 (T : List (List Int)) : Bool := T.all fun r => r.length == 4
theorem all4_t {T : List (List Int)} : all4 T = true ↔ ∀ r ∈ T, r.length = 4 := by
  unfold all4
  rw [List.all_eq_true]
  constructor
  · intro h r hr; exact eq_of_beq (h r hr)
  · intro h r hr; rw [h r hr]; rfl
theorem rows_perR {T : List (List Int)} (h : all4 T = true) : rowsOf (T.map perR) = T := by
  unfold rowsOf
  rw [List.map_map]
  conv => rhs; rw [← List.map_id T]
  exact List.map_congr_left fun r hr => row_perR (all4_t.1 h r hr)
theorem ppl_okT {L : List Per} (h : pplB L = true) : OkT (rowsOf L) ∧ (rowsOf L).length ≤ 40 ∧ all4 (rowsOf L) = true ∧ ∀ r ∈ rowsOf L, r.length ≤ 4 := by
  obtain ⟨h1, h2⟩ := ppl_t.1 h
  refine ⟨fun r hr => ?_, by rw [rowsOf_len]; exact h1, all4_t.2 fun r hr => ?_, fun r hr => ?_⟩
  · obtain ⟨p, hp, rfl⟩ := List.mem_map.1 hr
    obtain ⟨i, hi, rfl⟩ := List.getElem_of_mem hp
    have e : L.getD i per0 = L[i] := by simp [List.getD_eq_getElem?_getD, List.getElem?_eq_getElem hi]
    have := h2 i hi
    rw [e] at this
    obtain ⟨a1, a2, a3, a4⟩ := this
    refine ⟨by simp [rowOf], fun n hn => ?_⟩
    simp only [rowOf, List.mem_cons, List.not_mem_nil, or_false] at hn
    rcases hn with rfl | rfl | rfl | rfl <;> omega
  · obtain ⟨p, _, rfl⟩ := List.mem_map.1 hr; rfl
  · obtain ⟨p, _, rfl⟩ := List.mem_map.1 hr; exact Nat.le_refl 4

/-- What both find. -/
def pfB (s : List UInt8) : Bool := all4 (rowsS s) && decide (tpL ((rowsS s).map perR) = s)
def pfL (s : List UInt8) : List Per := if pfB s then (rowsS s).map perR else []
theorem pf_f {s : List UInt8} (h : pfB s = false) : pfL s = [] := by unfold pfL; rw [h]; rfl
theorem pf_tt {s : List UInt8} (h : pfB s = true) : pfL s = (rowsS s).map perR := by unfold pfL; rw [h]; rfl
theorem pf_nil : pfB [] = true := by
  unfold pfB
  have : rowsS ([] : List UInt8) = [] := rfl
  rw [this]
  rfl
theorem pfl_nil : pfL [] = [] := by rw [pf_tt pf_nil]; rfl
/-- A text that is people's. -/
theorem pf_t {s : List UInt8} (h : pfB s = true) (hne : s ≠ []) : pplB (pfL s) = true ∧ rowsOf (pfL s) = rowsS s ∧ text (rowsS s) [] = s ∧ readOk 40 s = true ∧ readV s = rowsS s ∧ all4 (rowsS s) = true ∧ rowsS s ≠ [] := by
  have hL := pf_tt h
  unfold pfB at h
  rw [Bool.and_eq_true, decide_eq_true_eq] at h
  obtain ⟨h1, h2⟩ := h
  rw [hL]
  have hr := rows_perR h1
  cases hv : pplB ((rowsS s).map perR) with
  | false =>
    unfold tpL at h2
    rw [hv] at h2
    exact absurd h2.symm hne
  | true =>
    unfold tpL at h2
    rw [hv, if_pos rfl, hr] at h2
    obtain ⟨k1, k2, k3, k4⟩ := ppl_okT hv
    rw [hr] at k1 k2 k3 k4
    have hn : rowsS s ≠ [] := fun e => hne (by rw [← h2, e]; rfl)
    refine ⟨rfl, hr, h2, ?_, ?_, h1, hn⟩
    · have := readOk_text (most := 40) hn k1 k2 k4
      rw [h2] at this
      exact this
    · have := readV_text hn k1
      rw [h2] at this
      exact this
/-- The program's test is the reference's. -/
theorem pf_iff {s : List UInt8} (hne : s ≠ []) : pfB s = (readOk 40 s && (all4 (readV s) && (pplB ((readV s).map perR) && decide (tpL ((readV s).map perR) = s)))) := by
  rw [Bool.eq_iff_iff, Bool.and_eq_true, Bool.and_eq_true, Bool.and_eq_true, decide_eq_true_eq]
  constructor
  · intro h
    obtain ⟨h1, h2, h3, h4, h5, h6, _⟩ := pf_t h hne
    rw [h5]
    rw [pf_tt h] at h1 h2
    refine ⟨h4, h6, h1, ?_⟩
    unfold tpL
    rw [h1, if_pos rfl, h2, h3]
  · rintro ⟨_, h2, h3, h4⟩
    have hr := rows_perR h2
    unfold tpL at h4
    rw [h3, if_pos rfl, hr] at h4
    obtain ⟨k1, _⟩ := ppl_okT h3
    rw [hr] at k1
    have hs := rowsS_text k1
    rw [h4] at hs
    unfold pfB
    rw [hs, Bool.and_eq_true, decide_eq_true_eq]
    refine ⟨h2, ?_⟩
    unfold tpL
    rw [h3, if_pos rfl, hr, h4]
/-- Who writes people reads them back. -/
theorem pf_ppl {L : List Per} (h : pplB L = true) : pfB (text (rowsOf L) []) = true ∧ pfL (text (rowsOf L) []) = L := by
  obtain ⟨k1, k2, k3, k4⟩ := ppl_okT h
  have hs := rowsS_text k1
  have hm : (rowsOf L).map perR = L := by
    unfold rowsOf
    rw [List.map_map]
    conv => rhs; rw [← List.map_id L]
    exact List.map_congr_left fun p _ => rfl
  have hb : pfB (text (rowsOf L) []) = true := by
    unfold pfB
    rw [hs, k3, hm, Bool.true_and, decide_eq_true_eq]
    unfold tpL
    rw [h, if_pos rfl]
  exact ⟨hb, by rw [pf_tt hb, hs, hm]⟩
theorem tp_of {L : List Per} {s : ByteArray} (h : tpL L = s.data.toList) : tp L = s := by
  apply ByteArray.ext
  apply Array.toList_inj.1
  rw [tp_list, h]
theorem tp_not {L : List Per} {s : ByteArray} (h : tpL L ≠ s.data.toList) : tp L ≠ s := fun e => h (by rw [← e, tp_list])
/-- Without its last byte. -/
theorem pf_short {u : List UInt8} (h : pfB (u ++ [10]) = true) (hu : u ≠ []) : pfB u = false := by
  rw [Bool.eq_false_iff]
  intro h2
  obtain ⟨a1, a0, a2, _, _, _, _⟩ := pf_t h (by simp)
  obtain ⟨b1, b0, b2, _, _, _, _⟩ := pf_t h2 hu
  have c1 := cut_text (rowsS (u ++ [10]))
  have c2 := cut_text (rowsS u)
  rw [a2, cutL_snoc] at c1
  rw [b2] at c2
  have c3 := List.append_cancel_right c1
  rw [c2] at c3
  have hm : ([] : List UInt8) ∈ (rowsS (u ++ [10])).map lineOf := by rw [← c3]; simp
  obtain ⟨r, hr, he⟩ := List.mem_map.1 hm
  have k := (ppl_okT a1).1
  rw [a0] at k
  exact lineOf_ne (k r hr).1 he
theorem pf_last {s : List UInt8} (h : pfB s = true) (hne : s ≠ []) : ∃ u, s = u ++ [10] ∧ u ≠ [] := by
  obtain ⟨a1, a0, a2, _, _, _, hn⟩ := pf_t h hne
  obtain ⟨u, hu⟩ := text_last hn
  rw [a2] at hu
  refine ⟨u, hu, ?_⟩
  rintro rfl
  have c1 := cut_text (rowsS s)
  rw [a2, hu, cutL_snoc] at c1
  have c3 := List.append_cancel_right c1
  have hm : ([] : List UInt8) ∈ (rowsS s).map lineOf := by rw [← hu] at c3; rw [hu, ← hu, ← c3]; simp [cutL]
  obtain ⟨r, hr, he⟩ := List.mem_map.1 hm
  have k := (ppl_okT a1).1
  rw [a0] at k
  exact lineOf_ne (k r hr).1 he
end Go.Proofs.YthncpnopplhlkaaDoor
