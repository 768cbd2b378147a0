/-
  Contract: spec.l91Person.
-/
import Derived.Test.YthncpnopplhlkaaDoorDrawTT
import Derived.Test.YthncpnopplhlkaaDoorPersE
namespace Go.Proofs.YthncpnopplhlkaaDoor
open Go.RowKit

theorem Only.trans {rb : Nat} {a b c : World} (h : Only rb a b) (k : Only rb b c) : Only rb a c :=
  ⟨k.1.trans h.1, k.2.1.trans h.2.1, k.2.2.1.trans h.2.2.1, k.2.2.2.1.trans h.2.2.2.1, fun i hi => (k.2.2.2.2 i hi).trans (h.2.2.2.2 i hi)⟩
/-- A person that was drawn. -/
def PerD (rb : Nat) (p : Int) (w : World) (e : Ending) (w' : World) : Prop :=
  ∃ a j s y : Int, e = .returned (.agg #[.int .i64 a, .int .i64 j, .int .i64 s, .int .i64 y]) ∧ (0 ≤ y ∧ y ≤ 999) ∧ IsRd w' rb (p + 5) ∧ Fr rb w w'

set_option maxHeartbeats 1000000 in
theorem personD (rb : Nat) (p : Int) (w : World) (h : IsRd w rb p) (hp : p ≤ 100000) :
    Calls Tryd.prog 50 #[.pointer (some ⟨rb, 0, none⟩)] w (PerD rb p w) := by
  have HI := Lib.hid h
  have hlt0 := h.lt
  clear h
  obtain ⟨W0, hW0⟩ : ∃ W0, w.alloc (.cells #[.int .i64 0, .int .i64 0, .int .i64 0, .int .i64 0] 47) = W0 := ⟨_, rfl⟩
  have hr0 : W0.rowIs w.heap.size 47 4 (fun _ => .int .i64 0) := by
    rw [← hW0]
    exact World.rowIs_alloc w #[.int .i64 0, .int .i64 0, .int .i64 0, .int .i64 0] 47 (fun _ => .int .i64 0) (fun i hi => by
      have : i = 0 ∨ i = 1 ∨ i = 2 ∨ i = 3 := by simp at hi; omega
      rcases this with rfl | rfl | rfl | rfl <;> rfl)
  have HR0 := Lib.hid hr0
  have HRD0 : Hid (IsRd W0 rb p) := Lib.hid (by rw [← hW0]; exact HI.out.alloc _)
  have HF0 : Hid (Fr rb w W0) := Lib.hid (by rw [← hW0]; exact (Fr.refl rb w).alloc _)
  have HW0 := Lib.hid hW0
  clear hr0 hW0
  go_enter Tryd.func50, Tryd.ntmps50
  go_wp2_with fail
  rw [HW0.out]
  refine (pick_any rb 4 p W0 HRD0.out (by omega) (by omega)).mono ?_
  rintro e w1 ⟨a, rfl, ha0, ha1, hrd1, ho1⟩
  have HRD1 := Lib.hid hrd1
  have HO1 := Lib.hid ho1
  clear hrd1 ho1
  go_wp2_with fail
  refine (pick_any rb 3 (p + 1) w1 HRD1.out (by omega) (by omega)).mono ?_
  rintro e w2 ⟨j, rfl, hj0, hj1, hrd2, ho2⟩
  have HRD2 := Lib.hid hrd2
  have HO2 := Lib.hid (HO1.out.trans ho2)
  clear hrd2 ho2
  go_wp2_with fail
  refine (pick_any rb 2 (p + 1 + 1) w2 HRD2.out (by omega) (by omega)).mono ?_
  rintro e w3 ⟨s, rfl, hs0, hs1, hrd3, ho3⟩
  have HRD3 := Lib.hid hrd3
  have HO3 := Lib.hid (HO2.out.trans ho3)
  clear hrd3 ho3
  go_wp2_with fail
  refine (pick_any rb 10 (p + 1 + 1 + 1) w3 HRD3.out (by omega) (by omega)).mono ?_
  rintro e w4 ⟨y1, rfl, hy10, hy11, hrd4, ho4⟩
  have HRD4 := Lib.hid hrd4
  have HO4 := Lib.hid (HO3.out.trans ho4)
  have hy12 : y1 ≤ 9 := by omega
  clear hrd4 ho4
  go_wp2_with fail
  refine (pick_any rb 100 (p + 1 + 1 + 1 + 1) w4 HRD4.out (by omega) (by omega)).mono ?_
  rintro e w5 ⟨y2, rfl, hy20, hy21, hrd5, ho5⟩
  have HRD5 := Lib.hid hrd5
  have HO5 := Lib.hid (HO4.out.trans ho5)
  have hy22 : y2 ≤ 99 := by omega
  have hr5 : w5.rowIs w.heap.size 47 4 (fun _ => .int .i64 0) := HR0.out.of_block (HO5.out.2.2.2.2 w.heap.size (by omega))
  have hc0 := hr5.cell (i := 0) (by omega)
  have hc1 := hr5.cell (i := 1) (by omega)
  have hc2 := hr5.cell (i := 2) (by omega)
  have hc3 := hr5.cell (i := 3) (by omega)
  have hf0 := hr5.frozen 0
  have hf1 := hr5.frozen 1
  have hf2 := hr5.frozen 2
  have hf3 := hr5.frozen 3
  have HF5 := Lib.hid (HF0.out.only HO5.out)
  clear hrd5 ho5 hr5 ha1 hj1 hs1 hy11 hy21
  go_wp2_with fail
  refine bodyPost_ret (v := .agg #[.int .i64 a, .int .i64 j, .int .i64 s, .int .i64 (y1 * 100 + y2)]) (by simp [results, Tryd.results50, go_sem, hc0, hc1, hc2, hc3]) rfl ⟨a, j, s, y1 * 100 + y2, rfl, by omega, ?_, ?_⟩
  · rw [show p + 5 = p + 1 + 1 + 1 + 1 + 1 by omega]
    exact HRD5.out.keep (B := w.heap.size) (((((Below.refl w.heap.size w5).setCell (p := ⟨w.heap.size, 0, none⟩) (Nat.le_refl _) _).setCell (p := ⟨w.heap.size, 1, none⟩) (Nat.le_refl _) _).setCell (p := ⟨w.heap.size, 2, none⟩) (Nat.le_refl _) _).setCell (p := ⟨w.heap.size, 3, none⟩) (Nat.le_refl _) _) hlt0
  · exact (((HF5.out.setCell (p := ⟨w.heap.size, 0, none⟩) (Nat.le_refl _) _).setCell (p := ⟨w.heap.size, 1, none⟩) (Nat.le_refl _) _).setCell (p := ⟨w.heap.size, 2, none⟩) (Nat.le_refl _) _).setCell (p := ⟨w.heap.size, 3, none⟩) (Nat.le_refl _) _
end Go.Proofs.YthncpnopplhlkaaDoor
