/-
  Contract: impl.emptyTable.
-/
import Derived.Test.YtgnmfbgoacfjeaaDoorBlank
namespace Go.Proofs.YtgnmfbgoacfjeaaDoor
open Go.RowKit

/-- Rows of rows out of their blocks, one by one. -/
theorem mt_of_rows {α : Type} {enc : α → Value} {RT ET : TypeId} {w : World} {base b : Nat} {T : List (List α)} {g : Nat → Nat} {c : Nat → Nat} (hb : base ≤ b) (hl : T.length ≤ 9223372036854775807)
    (h1 : w.rowIs b RT T.length (fun i => .slice (some ⟨g i, 0, none⟩) (T.getD i []).length (c i))) (hlow : ∀ i, i < T.length → base ≤ g i) (hinj : ∀ i j, i < T.length → j < T.length → g i = g j → i = j)
    (hrow : ∀ i, i < T.length → (T.getD i []).length ≤ c i ∧ c i ≤ 9223372036854775807 ∧ ∃ f, w.rowIs (g i) ET (c i) f ∧ ∀ j x, (T.getD i [])[j]? = some x → f j = enc x) :
    MtG enc RT ET w base (.slice (some ⟨b, 0, none⟩) T.length T.length) T g := by
  obtain ⟨cur, hh, hs, hcur⟩ := h1
  refine ⟨⟨(List.range T.length).map fun i => .slice (some ⟨g i, 0, none⟩) (T.getD i []).length (c i), ⟨by simp, .inr ⟨b, T.length, cur, rfl, hb, hh, Nat.le_refl _, by unfold maxLen; omega, by rw [hs, Nat.mul_one], ?_⟩⟩, fun i hi => ?_⟩, hlow, hinj⟩
  · apply List.ext_getElem?
    intro j
    by_cases hj : j < T.length
    · rw [Nat.mul_one, List.getElem?_take_of_lt hj, Array.getElem?_toList, hcur j hj, List.getElem?_map, List.getElem?_range hj]
      rfl
    · rw [List.getElem?_eq_none (by rw [List.length_take]; omega), List.getElem?_eq_none (by simp; omega)]
  · obtain ⟨h2, h3, f, h4, h5⟩ := hrow i hi
    exact ⟨c i, f, by rw [List.getElem?_map, List.getElem?_range hi]; rfl, h2, h3, h4, h5⟩

theorem blank_at {h n i : Nat} (hi : i < h) : (blank h n).getD i [] = List.replicate n 0 := by
  simp [blank, List.getD_eq_getElem?_getD, List.getElem?_replicate, hi]

set_option maxHeartbeats 1000000 in
theorem emptyI (h n : Nat) (w : World) (hh : h ≤ 100) (hn : n ≤ 100) :
    Calls Tryd.prog 47 #[.int .i64 h, .int .i64 n] w fun e w' => ∃ g, e = .returned (.slice (some ⟨w.heap.size, 0, none⟩) h h) ∧ MtI w' w.heap.size (.slice (some ⟨w.heap.size, 0, none⟩) h h) (blank h n) g ∧ Below w.heap.size w w' := by
  have hmk : ∀ W : World, (Instr.makeSlice 46 (.int .i64 (n : Int)) (.int .i64 (n : Int))).run Tryd.prog W = .ok (.slice (some ⟨W.heap.size, 0, none⟩) n n) (W.alloc (.cells (madeCells #[.int .i64 0] n) 3)) :=
    fun W => run_make_row' 46 3 _ 8 Tryd.underlying46 eltI.info rfl .i64 .i64 n (by omega) (by omega) W
  have hmt : ∀ W : World, (Instr.makeSlice 32 (.int .i64 (h : Int)) (.int .i64 (h : Int))).run Tryd.prog W = .ok (.slice (some ⟨W.heap.size, 0, none⟩) h h) (W.alloc (.cells (madeCells #[.slice none 0 0] h) 46)) :=
    fun W => run_make_row' 32 46 _ 24 Tryd.underlying32 eltR.info rfl .i64 .i64 h (by omega) (by omega) W
  go_enter Tryd.func47, Tryd.ntmps47
  go_wp2_with fail
  go_loopw [11] (fun i wr => ∃ k : Nat, k ≤ h ∧ i = .int .i64 k ∧ wr.heap.size = w.heap.size + 1 + k ∧ Below w.heap.size w wr ∧
      wr.rowIs w.heap.size 46 h (fun i => if i < k then .slice (some ⟨w.heap.size + 1 + i, 0, none⟩) n n else .slice none 0 0) ∧ ∀ i, i < k → wr.rowIs (w.heap.size + 1 + i) 3 n (fun _ => .int .i64 0)) (fun i _ => h - (intOf i).toNat)
  case atStart =>
    refine ⟨0, Nat.zero_le _, rfl, by simp, (Below.refl _ _).alloc (Nat.le_refl _) _, (World.rowIs_made w _ _ _).congr fun i _ => by rw [if_neg (by omega)], fun i hi => absurd hi (by omega)⟩
  case round =>
    obtain ⟨k, hk, rfl, hsz, hb, ht, hr⟩ := hrel
    have HSZ := Lib.hid hsz
    have HB := Lib.hid hb
    have HT := Lib.hid ht
    have HR := Lib.hid hr
    clear hsz hb ht hr
    by_cases hlt : k < h
    · have hcell := HT.out.cell hlt
      have hfr := HT.out.frozen k
      have hbl := HT.out.lt
      have hli : (k : Int) < (h : Int) := by omega
      rw [if_neg (Nat.lt_irrefl _)] at hcell
      go_wp2_with fail
      go_roundw
      case rel =>
        have hsz := HSZ.out
        refine ⟨k + 1, by omega, by go_num, by simp; omega, ((HB.out.setCell (p := ⟨w.heap.size, k, none⟩) (Nat.le_refl _) _).alloc (by simp; omega) _), ?_, fun i hi => ?_⟩
        · refine ((HT.out.set k _).alloc _).congr fun i hi => ?_
          by_cases e : i = k
          · subst e
            rw [if_pos rfl, if_pos (by omega), hsz]
          · rw [if_neg e]
            by_cases e2 : i < k
            · rw [if_pos e2, if_pos (by omega)]
            · rw [if_neg e2, if_neg (by omega)]
        · by_cases e : i = k
          · subst e
            rw [← hsz]
            have := World.rowIs_made (wr.setCell ⟨w.heap.size, i, none⟩ (.slice (some ⟨wr.heap.size, 0, none⟩) n n)) (.int .i64 0) n 3
            rw [World.size_setCell] at this
            exact this
          · exact ((HR.out i (by omega)).setOther (by simp; omega) _).alloc _
      case measure => simp [intOf]; omega
    · obtain rfl : k = h := by omega
      go_wp2_with fail
      go_ret
      refine ⟨fun i => w.heap.size + 1 + i, rfl, ?_, HB.out⟩
      have := mt_of_rows (enc := Value.int .i64) (RT := 46) (ET := 3) (w := wr) (base := w.heap.size) (b := w.heap.size) (T := blank k n) (g := fun i => w.heap.size + 1 + i) (c := fun _ => n) (Nat.le_refl _) (by rw [blank_len]; omega)
        (by rw [blank_len]; exact HT.out.congr fun i hi => by rw [if_pos hi, blank_row hi]) (fun i _ => by omega) (fun i j _ _ e => by omega)
        (fun i hi => by
          rw [blank_len] at hi
          rw [blank_row hi]
          refine ⟨Nat.le_refl _, by omega, _, HR.out i hi, fun j x hx => ?_⟩
          rw [blank_at hi] at hx
          have := List.getElem?_eq_some_iff.1 hx
          obtain ⟨h1, h2⟩ := this
          simp at h2
          rw [← h2])
      rw [blank_len] at this
      exact this
end Go.Proofs.YtgnmfbgoacfjeaaDoor
