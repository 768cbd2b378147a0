/-
  Contracts: impl.safe, impl.PatternSafe.
-/
import Derived.Test.YtlmlchkolcmhpaaGreatDoorYBound
import Derived.Carry
import Derived.OrdersHeld
import Derived.Deep.RegionHeld
namespace Go.Proofs.YtlmlchkolcmhpaaGreatDoor
open Go.RowKit Go.Shelf
open Go.TextMath (tvB mvB text word)
open Go.FlowMath (sg)

set_option maxHeartbeats 4000000 in
theorem safeI (tb ct : Nat) (T : List (List Int)) (mb cm : Nat) (M : List (List Bool)) (i j : Nat) (n : Int) (w : World) (hr : Tab .i64 w (some ⟨tb, 0, none⟩) tb 0 T) (hm : TabB w (some ⟨mb, 0, none⟩) mb 0 M) (hv : mvB T M = true) (hn : cellB n = true) (hi : i < T.length) (hj : j < (T.getD 0 []).length) :
    Calls Tryz.prog 150 #[.slice (some ⟨tb, 0, none⟩) T.length ct, .slice (some ⟨mb, 0, none⟩) T.length cm, .int .i64 (i : Int), .int .i64 (j : Int), .int .i64 n] w fun e w' => e = .returned (.bool (safeM T M n i j)) ∧ Below w.heap.size w w' := by
  obtain ⟨hn0, hn1⟩ : 0 ≤ n ∧ n ≤ 99 := by simpa [cellB] using hn
  have htv := (mv_t.1 hv).1
  obtain ⟨b1, o1, c1, r1, r2, r3, r4, r5⟩ := at_T hr htv hi hj
  have HHI := Lib.hid (fun (W : World) (h1 : Tab .i64 W (some ⟨tb, 0, none⟩) tb 0 T) (h2 : TabB W (some ⟨mb, 0, none⟩) mb 0 M) => highI tb ct T mb cm M i j W h1 h2 hv hi hj)
  have HLO := Lib.hid (fun (W : World) (h1 : Tab .i64 W (some ⟨tb, 0, none⟩) tb 0 T) (h2 : TabB W (some ⟨mb, 0, none⟩) mb 0 M) => lowI tb ct T mb cm M i j W h1 h2 hv hi hj)
  obtain ⟨x, hx⟩ : ∃ x, cellT T i j = x := ⟨_, rfl⟩
  obtain ⟨X, hX⟩ : ∃ X, highM T M i j = X := ⟨_, rfl⟩
  obtain ⟨L, hL⟩ : ∃ L, lowM T M i j = L := ⟨_, rfl⟩
  have hx0 : 0 ≤ x ∧ x ≤ 99 := by
    rw [← hx]
    exact ⟨(tv_bounds htv).1 i hi j hj, (tv_bounds htv).2 i hi j hj⟩
  obtain ⟨xn, hxn⟩ : ∃ xn, x + n = xn := ⟨_, rfl⟩
  obtain ⟨xm, hxm⟩ : ∃ xm, x - n = xm := ⟨_, rfl⟩
  have hw1 : IntKind.i64.wrap (x + n) = xn := by rw [hxn]; exact IntWalk.i64_in _ (by omega)
  have hw2 : IntKind.i64.wrap (x - n) = xm := by rw [hxm]; exact IntWalk.i64_in _ (by omega)
  have HVAL := Lib.hid (show safeM T M n i j = decide (xn ≤ X ∧ L ≤ max 0 xm) by unfold safeM; rw [hx, hX, hL, hxn, hxm])
  have HR := Lib.hid hr
  have HMK := Lib.hid hm
  rw [hx] at r2
  rw [hX] at HHI
  rw [hL] at HLO
  obtain ⟨q, hq⟩ : ∃ q, (T.getD 0 []).length = q := ⟨_, rfl⟩
  rw [hq] at r1 r3 hj
  obtain ⟨h, hh⟩ : ∃ h, T.length = h := ⟨_, rfl⟩
  rw [hh] at HHI HLO hi ⊢
  have hii : (i : Int) < (h : Int) := by omega
  have hjj : (j : Int) < (q : Int) := by omega
  clear hr hm hv htv hq hh hx hX hL hxn hxm hn hx0 hn0 hn1
  by_cases hc : xn ≤ X
  · have HC := Lib.hid hc
    go_enter Tryz.func150, Tryz.ntmps150
    go_wp2_with fail
    refine wp_region_held (S := (fun V => V.cell? ⟨tb, i, none⟩ = some (.slice (some ⟨b1, o1, none⟩) q c1) ∧ V.cell? ⟨b1, o1 + j, none⟩ = some (.int .i64 x))) (by kernel_rfl) ?_
    change wpAnyH _ _ _ _ _ _ _ _ w.drew
    have hS0 : w.drew.cell? ⟨tb, i, none⟩ = some (.slice (some ⟨b1, o1, none⟩) q c1) ∧ w.drew.cell? ⟨b1, o1 + j, none⟩ = some (.int .i64 x) := ⟨r1, r2⟩
    refine wpAnyH_take (i := 0) (oi := ⟨some 11, _, _, _, _, _⟩) (v := .slice (some ⟨tb, 0, none⟩) h ct) rfl (by kernel_rfl) (by kernel_rfl) (by kernel_rfl) (fun _ _ _ h => h) (Or.inl ⟨by kernel_rfl, fun V hV => ?_⟩) hS0 ?_
    · obtain ⟨q0, q1⟩ := hV
      go_simp
    simp only [Act.put, List.setIfInBounds_toArray, List.set_cons_zero, List.set_cons_succ]
    refine wpAnyH_take (i := 1) (oi := ⟨some 12, _, _, _, _, _⟩) (v := .slice (some ⟨mb, 0, none⟩) h cm) rfl (by kernel_rfl) (by kernel_rfl) (by kernel_rfl) (fun _ _ _ h => h) (Or.inl ⟨by kernel_rfl, fun V hV => ?_⟩) hS0 ?_
    · obtain ⟨q0, q1⟩ := hV
      go_simp
    simp only [Act.put, List.setIfInBounds_toArray, List.set_cons_zero, List.set_cons_succ]
    refine wpAnyH_take (i := 2) (oi := ⟨some 13, _, _, _, _, _⟩) (v := .int .i64 (i : Int)) rfl (by kernel_rfl) (by kernel_rfl) (by kernel_rfl) (fun _ _ _ h => h) (Or.inl ⟨by kernel_rfl, fun V hV => ?_⟩) hS0 ?_
    · obtain ⟨q0, q1⟩ := hV
      go_simp
    simp only [Act.put, List.setIfInBounds_toArray, List.set_cons_zero, List.set_cons_succ]
    refine wpAnyH_take (i := 3) (oi := ⟨some 14, _, _, _, _, _⟩) (v := .int .i64 (j : Int)) rfl (by kernel_rfl) (by kernel_rfl) (by kernel_rfl) (fun _ _ _ h => h) (Or.inl ⟨by kernel_rfl, fun V hV => ?_⟩) hS0 ?_
    · obtain ⟨q0, q1⟩ := hV
      go_simp
    simp only [Act.put, List.setIfInBounds_toArray, List.set_cons_zero, List.set_cons_succ]
    refine wpAnyH_take (i := 5) (oi := ⟨some 16, _, _, _, _, _⟩) (v := .slice (some ⟨tb, 0, none⟩) h ct) rfl (by kernel_rfl) (by kernel_rfl) (by kernel_rfl) (fun _ _ _ h => h) (Or.inl ⟨by kernel_rfl, fun V hV => ?_⟩) hS0 ?_
    · obtain ⟨q0, q1⟩ := hV
      go_simp
    simp only [Act.put, List.setIfInBounds_toArray, List.set_cons_zero, List.set_cons_succ]
    refine wpAnyH_take (i := 6) (oi := ⟨some 17, _, _, _, _, _⟩) (v := .int .i64 (i : Int)) rfl (by kernel_rfl) (by kernel_rfl) (by kernel_rfl) (fun _ _ _ h => h) (Or.inl ⟨by kernel_rfl, fun V hV => ?_⟩) hS0 ?_
    · obtain ⟨q0, q1⟩ := hV
      go_simp
    simp only [Act.put, List.setIfInBounds_toArray, List.set_cons_zero, List.set_cons_succ]
    refine wpAnyH_take (i := 7) (oi := ⟨some 18, _, _, _, _, _⟩) (v := .pointer (some ⟨tb, i, none⟩)) rfl (by kernel_rfl) (by kernel_rfl) (by kernel_rfl) (fun _ _ _ h => h) (Or.inl ⟨by kernel_rfl, fun V hV => ?_⟩) hS0 ?_
    · obtain ⟨q0, q1⟩ := hV
      go_simp
    simp only [Act.put, List.setIfInBounds_toArray, List.set_cons_zero, List.set_cons_succ]
    refine wpAnyH_take (i := 8) (oi := ⟨some 19, _, _, _, _, _⟩) (v := .slice (some ⟨b1, o1, none⟩) q c1) rfl (by kernel_rfl) (by kernel_rfl) (by kernel_rfl) (fun _ _ _ h => h) (Or.inl ⟨by kernel_rfl, fun V hV => ?_⟩) hS0 ?_
    · obtain ⟨q0, q1⟩ := hV
      go_simp
    simp only [Act.put, List.setIfInBounds_toArray, List.set_cons_zero, List.set_cons_succ]
    refine wpAnyH_take (i := 9) (oi := ⟨some 20, _, _, _, _, _⟩) (v := .int .i64 (j : Int)) rfl (by kernel_rfl) (by kernel_rfl) (by kernel_rfl) (fun _ _ _ h => h) (Or.inl ⟨by kernel_rfl, fun V hV => ?_⟩) hS0 ?_
    · obtain ⟨q0, q1⟩ := hV
      go_simp
    simp only [Act.put, List.setIfInBounds_toArray, List.set_cons_zero, List.set_cons_succ]
    refine wpAnyH_take (i := 10) (oi := ⟨some 21, _, _, _, _, _⟩) (v := .pointer (some ⟨b1, o1 + j, none⟩)) rfl (by kernel_rfl) (by kernel_rfl) (by kernel_rfl) (fun _ _ _ h => h) (Or.inl ⟨by kernel_rfl, fun V hV => ?_⟩) hS0 ?_
    · obtain ⟨q0, q1⟩ := hV
      go_simp
    simp only [Act.put, List.setIfInBounds_toArray, List.set_cons_zero, List.set_cons_succ]
    refine wpAnyH_take (i := 11) (oi := ⟨some 22, _, _, _, _, _⟩) (v := .int .i64 x) rfl (by kernel_rfl) (by kernel_rfl) (by kernel_rfl) (fun _ _ _ h => h) (Or.inl ⟨by kernel_rfl, fun V hV => ?_⟩) hS0 ?_
    · obtain ⟨q0, q1⟩ := hV
      go_simp
    simp only [Act.put, List.setIfInBounds_toArray, List.set_cons_zero, List.set_cons_succ]
    refine wpAnyH_take (i := 12) (oi := ⟨some 23, _, _, _, _, _⟩) (v := .int .i64 n) rfl (by kernel_rfl) (by kernel_rfl) (by kernel_rfl) (fun _ _ _ h => h) (Or.inl ⟨by kernel_rfl, fun V hV => ?_⟩) hS0 ?_
    · obtain ⟨q0, q1⟩ := hV
      go_simp
    simp only [Act.put, List.setIfInBounds_toArray, List.set_cons_zero, List.set_cons_succ]
    refine wpAnyH_take (i := 13) (oi := ⟨some 24, _, _, _, _, _⟩) (v := .int .i64 xn) rfl (by kernel_rfl) (by kernel_rfl) (by kernel_rfl) (fun _ _ _ h => h) (Or.inl ⟨by kernel_rfl, fun V hV => ?_⟩) hS0 ?_
    · obtain ⟨q0, q1⟩ := hV
      go_simp
    simp only [Act.put, List.setIfInBounds_toArray, List.set_cons_zero, List.set_cons_succ]
    refine wpAnyH_ready (rs := [4]) (by kernel_rfl) (by simp) ?_
    refine AllReadyH.cons rfl (fun K hK => ?_) AllReadyH.nil
    rw [if_pos (by kernel_rfl)]
    go_simp
    refine (HHI.out w.drew HR.out HMK.out).mono ?_
    rintro e w1 ⟨rfl, hb⟩
    have HB1 := Lib.hid (show Below w.heap.size w w1 from (Below.refl w.heap.size w).drew.trans hb)
    have hS1 : w1.cell? ⟨tb, i, none⟩ = some (.slice (some ⟨b1, o1, none⟩) q c1) ∧ w1.cell? ⟨b1, o1 + j, none⟩ = some (.int .i64 x) := ⟨(hb.cell (p := ⟨tb, i, none⟩) r4).trans r1, (hb.cell (p := ⟨b1, o1 + j, none⟩) r5).trans r2⟩
    clear hb
    refine hK.out _ _ hS1 (fun _ => ?_)
    try simp only [Act.put, List.setIfInBounds_toArray, List.set_cons_zero, List.set_cons_succ]
    clear hK K
    refine wpAnyH_take (i := 14) (oi := ⟨some 25, _, _, _, _, _⟩) (v := .bool true) rfl (by kernel_rfl) (by kernel_rfl) (by kernel_rfl) (fun _ _ _ h => h) (Or.inl ⟨by kernel_rfl, fun V hV => ?_⟩) hS1 ?_
    · obtain ⟨q0, q1⟩ := hV
      go_simp
    simp only [Act.put, List.setIfInBounds_toArray, List.set_cons_zero, List.set_cons_succ]
    refine wpAnyH_take (i := 15) (oi := ⟨some 26, _, _, _, _, _⟩) (v := .bool true) rfl (by kernel_rfl) (by kernel_rfl) (by kernel_rfl) (fun _ _ _ h => h) (Or.inl ⟨by kernel_rfl, fun V hV => ?_⟩) hS1 ?_
    · obtain ⟨q0, q1⟩ := hV
      go_simp
    simp only [Act.put, List.setIfInBounds_toArray, List.set_cons_zero, List.set_cons_succ]
    refine wpAnyH_take (i := 16) (oi := ⟨some 27, _, _, _, _, _⟩) (v := .slice (some ⟨tb, 0, none⟩) h ct) rfl (by kernel_rfl) (by kernel_rfl) (by kernel_rfl) (fun _ _ _ h => h) (Or.inl ⟨by kernel_rfl, fun V hV => ?_⟩) hS1 ?_
    · obtain ⟨q0, q1⟩ := hV
      go_simp
    simp only [Act.put, List.setIfInBounds_toArray, List.set_cons_zero, List.set_cons_succ]
    refine wpAnyH_take (i := 17) (oi := ⟨some 28, _, _, _, _, _⟩) (v := .slice (some ⟨mb, 0, none⟩) h cm) rfl (by kernel_rfl) (by kernel_rfl) (by kernel_rfl) (fun _ _ _ h => h) (Or.inl ⟨by kernel_rfl, fun V hV => ?_⟩) hS1 ?_
    · obtain ⟨q0, q1⟩ := hV
      go_simp
    simp only [Act.put, List.setIfInBounds_toArray, List.set_cons_zero, List.set_cons_succ]
    refine wpAnyH_take (i := 18) (oi := ⟨some 29, _, _, _, _, _⟩) (v := .int .i64 (i : Int)) rfl (by kernel_rfl) (by kernel_rfl) (by kernel_rfl) (fun _ _ _ h => h) (Or.inl ⟨by kernel_rfl, fun V hV => ?_⟩) hS1 ?_
    · obtain ⟨q0, q1⟩ := hV
      go_simp
    simp only [Act.put, List.setIfInBounds_toArray, List.set_cons_zero, List.set_cons_succ]
    refine wpAnyH_take (i := 19) (oi := ⟨some 30, _, _, _, _, _⟩) (v := .int .i64 (j : Int)) rfl (by kernel_rfl) (by kernel_rfl) (by kernel_rfl) (fun _ _ _ h => h) (Or.inl ⟨by kernel_rfl, fun V hV => ?_⟩) hS1 ?_
    · obtain ⟨q0, q1⟩ := hV
      go_simp
    simp only [Act.put, List.setIfInBounds_toArray, List.set_cons_zero, List.set_cons_succ]
    refine wpAnyH_take (i := 21) (oi := ⟨some 32, _, _, _, _, _⟩) (v := .slice (some ⟨tb, 0, none⟩) h ct) rfl (by kernel_rfl) (by kernel_rfl) (by kernel_rfl) (fun _ _ _ h => h) (Or.inl ⟨by kernel_rfl, fun V hV => ?_⟩) hS1 ?_
    · obtain ⟨q0, q1⟩ := hV
      go_simp
    simp only [Act.put, List.setIfInBounds_toArray, List.set_cons_zero, List.set_cons_succ]
    refine wpAnyH_take (i := 22) (oi := ⟨some 33, _, _, _, _, _⟩) (v := .int .i64 (i : Int)) rfl (by kernel_rfl) (by kernel_rfl) (by kernel_rfl) (fun _ _ _ h => h) (Or.inl ⟨by kernel_rfl, fun V hV => ?_⟩) hS1 ?_
    · obtain ⟨q0, q1⟩ := hV
      go_simp
    simp only [Act.put, List.setIfInBounds_toArray, List.set_cons_zero, List.set_cons_succ]
    refine wpAnyH_take (i := 23) (oi := ⟨some 34, _, _, _, _, _⟩) (v := .pointer (some ⟨tb, i, none⟩)) rfl (by kernel_rfl) (by kernel_rfl) (by kernel_rfl) (fun _ _ _ h => h) (Or.inl ⟨by kernel_rfl, fun V hV => ?_⟩) hS1 ?_
    · obtain ⟨q0, q1⟩ := hV
      go_simp
    simp only [Act.put, List.setIfInBounds_toArray, List.set_cons_zero, List.set_cons_succ]
    refine wpAnyH_take (i := 24) (oi := ⟨some 35, _, _, _, _, _⟩) (v := .slice (some ⟨b1, o1, none⟩) q c1) rfl (by kernel_rfl) (by kernel_rfl) (by kernel_rfl) (fun _ _ _ h => h) (Or.inl ⟨by kernel_rfl, fun V hV => ?_⟩) hS1 ?_
    · obtain ⟨q0, q1⟩ := hV
      go_simp
    simp only [Act.put, List.setIfInBounds_toArray, List.set_cons_zero, List.set_cons_succ]
    refine wpAnyH_take (i := 25) (oi := ⟨some 36, _, _, _, _, _⟩) (v := .int .i64 (j : Int)) rfl (by kernel_rfl) (by kernel_rfl) (by kernel_rfl) (fun _ _ _ h => h) (Or.inl ⟨by kernel_rfl, fun V hV => ?_⟩) hS1 ?_
    · obtain ⟨q0, q1⟩ := hV
      go_simp
    simp only [Act.put, List.setIfInBounds_toArray, List.set_cons_zero, List.set_cons_succ]
    refine wpAnyH_take (i := 26) (oi := ⟨some 37, _, _, _, _, _⟩) (v := .pointer (some ⟨b1, o1 + j, none⟩)) rfl (by kernel_rfl) (by kernel_rfl) (by kernel_rfl) (fun _ _ _ h => h) (Or.inl ⟨by kernel_rfl, fun V hV => ?_⟩) hS1 ?_
    · obtain ⟨q0, q1⟩ := hV
      go_simp
    simp only [Act.put, List.setIfInBounds_toArray, List.set_cons_zero, List.set_cons_succ]
    refine wpAnyH_take (i := 27) (oi := ⟨some 38, _, _, _, _, _⟩) (v := .int .i64 x) rfl (by kernel_rfl) (by kernel_rfl) (by kernel_rfl) (fun _ _ _ h => h) (Or.inl ⟨by kernel_rfl, fun V hV => ?_⟩) hS1 ?_
    · obtain ⟨q0, q1⟩ := hV
      go_simp
    simp only [Act.put, List.setIfInBounds_toArray, List.set_cons_zero, List.set_cons_succ]
    refine wpAnyH_take (i := 28) (oi := ⟨some 39, _, _, _, _, _⟩) (v := .int .i64 n) rfl (by kernel_rfl) (by kernel_rfl) (by kernel_rfl) (fun _ _ _ h => h) (Or.inl ⟨by kernel_rfl, fun V hV => ?_⟩) hS1 ?_
    · obtain ⟨q0, q1⟩ := hV
      go_simp
    simp only [Act.put, List.setIfInBounds_toArray, List.set_cons_zero, List.set_cons_succ]
    refine wpAnyH_take (i := 29) (oi := ⟨some 40, _, _, _, _, _⟩) (v := .int .i64 xm) rfl (by kernel_rfl) (by kernel_rfl) (by kernel_rfl) (fun _ _ _ h => h) (Or.inl ⟨by kernel_rfl, fun V hV => ?_⟩) hS1 ?_
    · obtain ⟨q0, q1⟩ := hV
      go_simp
    simp only [Act.put, List.setIfInBounds_toArray, List.set_cons_zero, List.set_cons_succ]
    refine wpAnyH_take (i := 30) (oi := ⟨some 41, _, _, _, _, _⟩) (v := .int .i64 (max 0 xm)) rfl (by kernel_rfl) (by kernel_rfl) (by kernel_rfl) (fun _ _ _ h => h) (Or.inl ⟨by kernel_rfl, fun V hV => ?_⟩) hS1 ?_
    · obtain ⟨q0, q1⟩ := hV
      go_simp
    simp only [Act.put, List.setIfInBounds_toArray, List.set_cons_zero, List.set_cons_succ]
    refine wpAnyH_ready (rs := [20]) (by kernel_rfl) (by simp) ?_
    refine AllReadyH.cons rfl (fun K hK => ?_) AllReadyH.nil
    rw [if_pos (by kernel_rfl)]
    go_simp
    refine (HLO.out w1 (HR.out.keep HB1.out (Nat.le_refl _)) (HMK.out.keep HB1.out (Nat.le_refl _))).mono ?_
    rintro e w2 ⟨rfl, hb⟩
    have HB2 := Lib.hid (HB1.out.trans (hb.mono HB1.out.size))
    have hS2 : w2.cell? ⟨tb, i, none⟩ = some (.slice (some ⟨b1, o1, none⟩) q c1) ∧ w2.cell? ⟨b1, o1 + j, none⟩ = some (.int .i64 x) := ⟨(HB2.out.cell (p := ⟨tb, i, none⟩) r4).trans r1, (HB2.out.cell (p := ⟨b1, o1 + j, none⟩) r5).trans r2⟩
    clear hb
    refine hK.out _ _ hS2 (fun _ => ?_)
    try simp only [Act.put, List.setIfInBounds_toArray, List.set_cons_zero, List.set_cons_succ]
    clear hK K
    refine wpAnyH_take (i := 31) (oi := ⟨some 42, _, _, _, _, _⟩) (v := .bool (decide (L ≤ max 0 xm))) rfl (by kernel_rfl) (by kernel_rfl) (by kernel_rfl) (fun _ _ _ h => h) (Or.inl ⟨by kernel_rfl, fun V hV => ?_⟩) hS2 ?_
    · obtain ⟨q0, q1⟩ := hV
      go_simp
    simp only [Act.put, List.setIfInBounds_toArray, List.set_cons_zero, List.set_cons_succ]
    refine wpAnyH_take (i := 32) (oi := ⟨some 43, _, _, _, _, _⟩) (v := .bool (decide (L ≤ max 0 xm))) rfl (by kernel_rfl) (by kernel_rfl) (by kernel_rfl) (fun _ _ _ h => h) (Or.inl ⟨by kernel_rfl, fun V hV => ?_⟩) hS2 ?_
    · obtain ⟨q0, q1⟩ := hV
      go_simp
    simp only [Act.put, List.setIfInBounds_toArray, List.set_cons_zero, List.set_cons_succ]
    refine wpAnyH_take (i := 33) (oi := ⟨some 10, _, _, _, _, _⟩) (v := .bool (decide (L ≤ max 0 xm))) rfl (by kernel_rfl) (by kernel_rfl) (by kernel_rfl) (fun _ _ _ h => h) (Or.inl ⟨by kernel_rfl, fun V hV => ?_⟩) hS2 ?_
    · obtain ⟨q0, q1⟩ := hV
      go_simp
    simp only [Act.put, List.setIfInBounds_toArray, List.set_cons_zero, List.set_cons_succ]
    refine wpAnyH_done (by kernel_rfl) ?_ _
    go_wp2_with fail
    go_ret
    refine ⟨?_, HB2.out⟩
    rw [HVAL.out, show decide (xn ≤ X ∧ L ≤ max 0 xm) = decide (L ≤ max 0 xm) by simp [HC.out]]
    rfl
  · have HC := Lib.hid hc
    go_enter Tryz.func150, Tryz.ntmps150
    go_wp2_with fail
    refine wp_region_held (S := (fun V => V.cell? ⟨tb, i, none⟩ = some (.slice (some ⟨b1, o1, none⟩) q c1) ∧ V.cell? ⟨b1, o1 + j, none⟩ = some (.int .i64 x))) (by kernel_rfl) ?_
    change wpAnyH _ _ _ _ _ _ _ _ w.drew
    have hS0 : w.drew.cell? ⟨tb, i, none⟩ = some (.slice (some ⟨b1, o1, none⟩) q c1) ∧ w.drew.cell? ⟨b1, o1 + j, none⟩ = some (.int .i64 x) := ⟨r1, r2⟩
    refine wpAnyH_take (i := 0) (oi := ⟨some 11, _, _, _, _, _⟩) (v := .slice (some ⟨tb, 0, none⟩) h ct) rfl (by kernel_rfl) (by kernel_rfl) (by kernel_rfl) (fun _ _ _ h => h) (Or.inl ⟨by kernel_rfl, fun V hV => ?_⟩) hS0 ?_
    · obtain ⟨q0, q1⟩ := hV
      go_simp
    simp only [Act.put, List.setIfInBounds_toArray, List.set_cons_zero, List.set_cons_succ]
    refine wpAnyH_take (i := 1) (oi := ⟨some 12, _, _, _, _, _⟩) (v := .slice (some ⟨mb, 0, none⟩) h cm) rfl (by kernel_rfl) (by kernel_rfl) (by kernel_rfl) (fun _ _ _ h => h) (Or.inl ⟨by kernel_rfl, fun V hV => ?_⟩) hS0 ?_
    · obtain ⟨q0, q1⟩ := hV
      go_simp
    simp only [Act.put, List.setIfInBounds_toArray, List.set_cons_zero, List.set_cons_succ]
    refine wpAnyH_take (i := 2) (oi := ⟨some 13, _, _, _, _, _⟩) (v := .int .i64 (i : Int)) rfl (by kernel_rfl) (by kernel_rfl) (by kernel_rfl) (fun _ _ _ h => h) (Or.inl ⟨by kernel_rfl, fun V hV => ?_⟩) hS0 ?_
    · obtain ⟨q0, q1⟩ := hV
      go_simp
    simp only [Act.put, List.setIfInBounds_toArray, List.set_cons_zero, List.set_cons_succ]
    refine wpAnyH_take (i := 3) (oi := ⟨some 14, _, _, _, _, _⟩) (v := .int .i64 (j : Int)) rfl (by kernel_rfl) (by kernel_rfl) (by kernel_rfl) (fun _ _ _ h => h) (Or.inl ⟨by kernel_rfl, fun V hV => ?_⟩) hS0 ?_
    · obtain ⟨q0, q1⟩ := hV
      go_simp
    simp only [Act.put, List.setIfInBounds_toArray, List.set_cons_zero, List.set_cons_succ]
    refine wpAnyH_take (i := 5) (oi := ⟨some 16, _, _, _, _, _⟩) (v := .slice (some ⟨tb, 0, none⟩) h ct) rfl (by kernel_rfl) (by kernel_rfl) (by kernel_rfl) (fun _ _ _ h => h) (Or.inl ⟨by kernel_rfl, fun V hV => ?_⟩) hS0 ?_
    · obtain ⟨q0, q1⟩ := hV
      go_simp
    simp only [Act.put, List.setIfInBounds_toArray, List.set_cons_zero, List.set_cons_succ]
    refine wpAnyH_take (i := 6) (oi := ⟨some 17, _, _, _, _, _⟩) (v := .int .i64 (i : Int)) rfl (by kernel_rfl) (by kernel_rfl) (by kernel_rfl) (fun _ _ _ h => h) (Or.inl ⟨by kernel_rfl, fun V hV => ?_⟩) hS0 ?_
    · obtain ⟨q0, q1⟩ := hV
      go_simp
    simp only [Act.put, List.setIfInBounds_toArray, List.set_cons_zero, List.set_cons_succ]
    refine wpAnyH_take (i := 7) (oi := ⟨some 18, _, _, _, _, _⟩) (v := .pointer (some ⟨tb, i, none⟩)) rfl (by kernel_rfl) (by kernel_rfl) (by kernel_rfl) (fun _ _ _ h => h) (Or.inl ⟨by kernel_rfl, fun V hV => ?_⟩) hS0 ?_
    · obtain ⟨q0, q1⟩ := hV
      go_simp
    simp only [Act.put, List.setIfInBounds_toArray, List.set_cons_zero, List.set_cons_succ]
    refine wpAnyH_take (i := 8) (oi := ⟨some 19, _, _, _, _, _⟩) (v := .slice (some ⟨b1, o1, none⟩) q c1) rfl (by kernel_rfl) (by kernel_rfl) (by kernel_rfl) (fun _ _ _ h => h) (Or.inl ⟨by kernel_rfl, fun V hV => ?_⟩) hS0 ?_
    · obtain ⟨q0, q1⟩ := hV
      go_simp
    simp only [Act.put, List.setIfInBounds_toArray, List.set_cons_zero, List.set_cons_succ]
    refine wpAnyH_take (i := 9) (oi := ⟨some 20, _, _, _, _, _⟩) (v := .int .i64 (j : Int)) rfl (by kernel_rfl) (by kernel_rfl) (by kernel_rfl) (fun _ _ _ h => h) (Or.inl ⟨by kernel_rfl, fun V hV => ?_⟩) hS0 ?_
    · obtain ⟨q0, q1⟩ := hV
      go_simp
    simp only [Act.put, List.setIfInBounds_toArray, List.set_cons_zero, List.set_cons_succ]
    refine wpAnyH_take (i := 10) (oi := ⟨some 21, _, _, _, _, _⟩) (v := .pointer (some ⟨b1, o1 + j, none⟩)) rfl (by kernel_rfl) (by kernel_rfl) (by kernel_rfl) (fun _ _ _ h => h) (Or.inl ⟨by kernel_rfl, fun V hV => ?_⟩) hS0 ?_
    · obtain ⟨q0, q1⟩ := hV
      go_simp
    simp only [Act.put, List.setIfInBounds_toArray, List.set_cons_zero, List.set_cons_succ]
    refine wpAnyH_take (i := 11) (oi := ⟨some 22, _, _, _, _, _⟩) (v := .int .i64 x) rfl (by kernel_rfl) (by kernel_rfl) (by kernel_rfl) (fun _ _ _ h => h) (Or.inl ⟨by kernel_rfl, fun V hV => ?_⟩) hS0 ?_
    · obtain ⟨q0, q1⟩ := hV
      go_simp
    simp only [Act.put, List.setIfInBounds_toArray, List.set_cons_zero, List.set_cons_succ]
    refine wpAnyH_take (i := 12) (oi := ⟨some 23, _, _, _, _, _⟩) (v := .int .i64 n) rfl (by kernel_rfl) (by kernel_rfl) (by kernel_rfl) (fun _ _ _ h => h) (Or.inl ⟨by kernel_rfl, fun V hV => ?_⟩) hS0 ?_
    · obtain ⟨q0, q1⟩ := hV
      go_simp
    simp only [Act.put, List.setIfInBounds_toArray, List.set_cons_zero, List.set_cons_succ]
    refine wpAnyH_take (i := 13) (oi := ⟨some 24, _, _, _, _, _⟩) (v := .int .i64 xn) rfl (by kernel_rfl) (by kernel_rfl) (by kernel_rfl) (fun _ _ _ h => h) (Or.inl ⟨by kernel_rfl, fun V hV => ?_⟩) hS0 ?_
    · obtain ⟨q0, q1⟩ := hV
      go_simp
    simp only [Act.put, List.setIfInBounds_toArray, List.set_cons_zero, List.set_cons_succ]
    refine wpAnyH_ready (rs := [4]) (by kernel_rfl) (by simp) ?_
    refine AllReadyH.cons rfl (fun K hK => ?_) AllReadyH.nil
    rw [if_pos (by kernel_rfl)]
    go_simp
    refine (HHI.out w.drew HR.out HMK.out).mono ?_
    rintro e w1 ⟨rfl, hb⟩
    have HB1 := Lib.hid (show Below w.heap.size w w1 from (Below.refl w.heap.size w).drew.trans hb)
    have hS1 : w1.cell? ⟨tb, i, none⟩ = some (.slice (some ⟨b1, o1, none⟩) q c1) ∧ w1.cell? ⟨b1, o1 + j, none⟩ = some (.int .i64 x) := ⟨(hb.cell (p := ⟨tb, i, none⟩) r4).trans r1, (hb.cell (p := ⟨b1, o1 + j, none⟩) r5).trans r2⟩
    clear hb
    refine hK.out _ _ hS1 (fun _ => ?_)
    try simp only [Act.put, List.setIfInBounds_toArray, List.set_cons_zero, List.set_cons_succ]
    clear hK K
    refine wpAnyH_take (i := 14) (oi := ⟨some 25, _, _, _, _, _⟩) (v := .bool false) rfl (by kernel_rfl) (by kernel_rfl) (by kernel_rfl) (fun _ _ _ h => h) (Or.inl ⟨by kernel_rfl, fun V hV => ?_⟩) hS1 ?_
    · obtain ⟨q0, q1⟩ := hV
      go_simp
    simp only [Act.put, List.setIfInBounds_toArray, List.set_cons_zero, List.set_cons_succ]
    refine wpAnyH_take (i := 15) (oi := ⟨some 26, _, _, _, _, _⟩) (v := .bool false) rfl (by kernel_rfl) (by kernel_rfl) (by kernel_rfl) (fun _ _ _ h => h) (Or.inl ⟨by kernel_rfl, fun V hV => ?_⟩) hS1 ?_
    · obtain ⟨q0, q1⟩ := hV
      go_simp
    simp only [Act.put, List.setIfInBounds_toArray, List.set_cons_zero, List.set_cons_succ]
    refine wpAnyH_take (i := 16) (oi := ⟨some 27, _, _, _, _, _⟩) (v := undef) rfl (by kernel_rfl) (by kernel_rfl) (by kernel_rfl) (fun _ _ _ h => h) (Or.inr ⟨by kernel_rfl, rfl⟩) hS1 ?_
    simp only [Act.put, List.setIfInBounds_toArray, List.set_cons_zero, List.set_cons_succ]
    refine wpAnyH_take (i := 17) (oi := ⟨some 28, _, _, _, _, _⟩) (v := undef) rfl (by kernel_rfl) (by kernel_rfl) (by kernel_rfl) (fun _ _ _ h => h) (Or.inr ⟨by kernel_rfl, rfl⟩) hS1 ?_
    simp only [Act.put, List.setIfInBounds_toArray, List.set_cons_zero, List.set_cons_succ]
    refine wpAnyH_take (i := 18) (oi := ⟨some 29, _, _, _, _, _⟩) (v := undef) rfl (by kernel_rfl) (by kernel_rfl) (by kernel_rfl) (fun _ _ _ h => h) (Or.inr ⟨by kernel_rfl, rfl⟩) hS1 ?_
    simp only [Act.put, List.setIfInBounds_toArray, List.set_cons_zero, List.set_cons_succ]
    refine wpAnyH_take (i := 19) (oi := ⟨some 30, _, _, _, _, _⟩) (v := undef) rfl (by kernel_rfl) (by kernel_rfl) (by kernel_rfl) (fun _ _ _ h => h) (Or.inr ⟨by kernel_rfl, rfl⟩) hS1 ?_
    simp only [Act.put, List.setIfInBounds_toArray, List.set_cons_zero, List.set_cons_succ]
    refine wpAnyH_take (i := 21) (oi := ⟨some 32, _, _, _, _, _⟩) (v := undef) rfl (by kernel_rfl) (by kernel_rfl) (by kernel_rfl) (fun _ _ _ h => h) (Or.inr ⟨by kernel_rfl, rfl⟩) hS1 ?_
    simp only [Act.put, List.setIfInBounds_toArray, List.set_cons_zero, List.set_cons_succ]
    refine wpAnyH_take (i := 22) (oi := ⟨some 33, _, _, _, _, _⟩) (v := undef) rfl (by kernel_rfl) (by kernel_rfl) (by kernel_rfl) (fun _ _ _ h => h) (Or.inr ⟨by kernel_rfl, rfl⟩) hS1 ?_
    simp only [Act.put, List.setIfInBounds_toArray, List.set_cons_zero, List.set_cons_succ]
    refine wpAnyH_take (i := 23) (oi := ⟨some 34, _, _, _, _, _⟩) (v := undef) rfl (by kernel_rfl) (by kernel_rfl) (by kernel_rfl) (fun _ _ _ h => h) (Or.inr ⟨by kernel_rfl, rfl⟩) hS1 ?_
    simp only [Act.put, List.setIfInBounds_toArray, List.set_cons_zero, List.set_cons_succ]
    refine wpAnyH_take (i := 24) (oi := ⟨some 35, _, _, _, _, _⟩) (v := undef) rfl (by kernel_rfl) (by kernel_rfl) (by kernel_rfl) (fun _ _ _ h => h) (Or.inr ⟨by kernel_rfl, rfl⟩) hS1 ?_
    simp only [Act.put, List.setIfInBounds_toArray, List.set_cons_zero, List.set_cons_succ]
    refine wpAnyH_take (i := 25) (oi := ⟨some 36, _, _, _, _, _⟩) (v := undef) rfl (by kernel_rfl) (by kernel_rfl) (by kernel_rfl) (fun _ _ _ h => h) (Or.inr ⟨by kernel_rfl, rfl⟩) hS1 ?_
    simp only [Act.put, List.setIfInBounds_toArray, List.set_cons_zero, List.set_cons_succ]
    refine wpAnyH_take (i := 26) (oi := ⟨some 37, _, _, _, _, _⟩) (v := undef) rfl (by kernel_rfl) (by kernel_rfl) (by kernel_rfl) (fun _ _ _ h => h) (Or.inr ⟨by kernel_rfl, rfl⟩) hS1 ?_
    simp only [Act.put, List.setIfInBounds_toArray, List.set_cons_zero, List.set_cons_succ]
    refine wpAnyH_take (i := 27) (oi := ⟨some 38, _, _, _, _, _⟩) (v := undef) rfl (by kernel_rfl) (by kernel_rfl) (by kernel_rfl) (fun _ _ _ h => h) (Or.inr ⟨by kernel_rfl, rfl⟩) hS1 ?_
    simp only [Act.put, List.setIfInBounds_toArray, List.set_cons_zero, List.set_cons_succ]
    refine wpAnyH_take (i := 28) (oi := ⟨some 39, _, _, _, _, _⟩) (v := undef) rfl (by kernel_rfl) (by kernel_rfl) (by kernel_rfl) (fun _ _ _ h => h) (Or.inr ⟨by kernel_rfl, rfl⟩) hS1 ?_
    simp only [Act.put, List.setIfInBounds_toArray, List.set_cons_zero, List.set_cons_succ]
    refine wpAnyH_take (i := 29) (oi := ⟨some 40, _, _, _, _, _⟩) (v := undef) rfl (by kernel_rfl) (by kernel_rfl) (by kernel_rfl) (fun _ _ _ h => h) (Or.inr ⟨by kernel_rfl, rfl⟩) hS1 ?_
    simp only [Act.put, List.setIfInBounds_toArray, List.set_cons_zero, List.set_cons_succ]
    refine wpAnyH_take (i := 30) (oi := ⟨some 41, _, _, _, _, _⟩) (v := undef) rfl (by kernel_rfl) (by kernel_rfl) (by kernel_rfl) (fun _ _ _ h => h) (Or.inr ⟨by kernel_rfl, rfl⟩) hS1 ?_
    simp only [Act.put, List.setIfInBounds_toArray, List.set_cons_zero, List.set_cons_succ]
    refine wpAnyH_take (i := 20) (oi := ⟨some 31, _, _, _, _, _⟩) (v := undef) rfl (by kernel_rfl) (by kernel_rfl) (by kernel_rfl) (fun _ _ _ h => h) (Or.inr ⟨by kernel_rfl, rfl⟩) hS1 ?_
    simp only [Act.put, List.setIfInBounds_toArray, List.set_cons_zero, List.set_cons_succ]
    refine wpAnyH_take (i := 31) (oi := ⟨some 42, _, _, _, _, _⟩) (v := undef) rfl (by kernel_rfl) (by kernel_rfl) (by kernel_rfl) (fun _ _ _ h => h) (Or.inr ⟨by kernel_rfl, rfl⟩) hS1 ?_
    simp only [Act.put, List.setIfInBounds_toArray, List.set_cons_zero, List.set_cons_succ]
    refine wpAnyH_take (i := 32) (oi := ⟨some 43, _, _, _, _, _⟩) (v := .bool false) rfl (by kernel_rfl) (by kernel_rfl) (by kernel_rfl) (fun _ _ _ h => h) (Or.inl ⟨by kernel_rfl, fun V hV => ?_⟩) hS1 ?_
    · obtain ⟨q0, q1⟩ := hV
      go_simp
    simp only [Act.put, List.setIfInBounds_toArray, List.set_cons_zero, List.set_cons_succ]
    refine wpAnyH_take (i := 33) (oi := ⟨some 10, _, _, _, _, _⟩) (v := .bool false) rfl (by kernel_rfl) (by kernel_rfl) (by kernel_rfl) (fun _ _ _ h => h) (Or.inl ⟨by kernel_rfl, fun V hV => ?_⟩) hS1 ?_
    · obtain ⟨q0, q1⟩ := hV
      go_simp
    simp only [Act.put, List.setIfInBounds_toArray, List.set_cons_zero, List.set_cons_succ]
    refine wpAnyH_done (by kernel_rfl) ?_ _
    go_wp2_with fail
    go_ret
    refine ⟨?_, HB1.out⟩
    rw [HVAL.out, decide_eq_false (show ¬ (xn ≤ X ∧ L ≤ max 0 xm) from fun hh => absurd hh.1 (by have := HC.out; omega))]
    rfl

set_option maxHeartbeats 4000000 in
theorem patSafeI (tb ct : Nat) (T : List (List Int)) (mb cm : Nat) (M : List (List Bool)) (i j : Nat) (n : Int) (w : World) (hr : Tab .i64 w (some ⟨tb, 0, none⟩) tb 0 T) (hm : TabB w (some ⟨mb, 0, none⟩) mb 0 M) (hv : mvB T M = true) (hn : cellB n = true) (hi : i < T.length) (hj : j < (T.getD 0 []).length) :
    Calls Tryz.prog 115 #[.slice (some ⟨tb, 0, none⟩) T.length ct, .slice (some ⟨mb, 0, none⟩) T.length cm, .int .i64 (i : Int), .int .i64 (j : Int), .int .i64 n] w fun e w' => e = .returned (.bool (flagM M i j && safeM T M n i j)) ∧ Below w.heap.size w w' := by
  have hf := fitM_of hv
  have HHC := Lib.hid (hasCellI tb ct T mb cm M i j w hr hm hv hi hj)
  have HSF := Lib.hid (safeI tb ct T mb cm M i j n w hr hm hv hn hi hj)
  obtain ⟨b2, o2, c2, m1, m2, m3, m4, m5⟩ := at_M hm hf hi hj
  have HIC := Lib.hid (isCellI n w hn)
  obtain ⟨S, hS⟩ : ∃ S, safeM T M n i j = S := ⟨_, rfl⟩
  rw [hS] at HSF ⊢
  obtain ⟨fl, hfl⟩ : ∃ fl, flagM M i j = fl := ⟨_, rfl⟩
  rw [hfl] at m2 ⊢
  obtain ⟨q, hq⟩ : ∃ q, (T.getD 0 []).length = q := ⟨_, rfl⟩
  rw [hq] at m1 m3 hj
  obtain ⟨h, hh⟩ : ∃ h, T.length = h := ⟨_, rfl⟩
  rw [hh] at HHC HSF hi ⊢
  have hii : (i : Int) < (h : Int) := by omega
  have hjj : (j : Int) < (q : Int) := by omega
  clear hr hm hv hf hq hh hS hfl hn
  cases fl with
  | false =>
    go_enter Tryz.func115, Tryz.ntmps115
    go_wp2_with fail
    refine (HHC.out).mono ?_
    rintro e w' ⟨rfl, rfl⟩
    go_wp2_with fail
    refine (HIC.out).mono ?_
    rintro e w' ⟨rfl, rfl⟩
    go_wp2_with fail
    go_ret
    exact ⟨rfl, Below.refl _ _⟩
  | true =>
    go_enter Tryz.func115, Tryz.ntmps115
    go_wp2_with fail
    refine (HHC.out).mono ?_
    rintro e w' ⟨rfl, rfl⟩
    go_wp2_with fail
    refine (HIC.out).mono ?_
    rintro e w' ⟨rfl, rfl⟩
    go_wp2_with fail
    refine (HSF.out).mono ?_
    rintro e w' ⟨rfl, hb⟩
    have HB1 := Lib.hid hb
    clear hb
    go_wp2_with fail
    go_ret
    exact ⟨by first | rfl | simp, HB1.out⟩
end Go.Proofs.YtlmlchkolcmhpaaGreatDoor
