/-
  Contracts: impl.hasCell, impl.BoundHigh, impl.BoundLow, impl.isCell, impl.safe, impl.PatternSafe.
-/
import Derived.Test.YtlmlchkolcmhpaaGreatDoorYShift
namespace Go.Proofs.YtlmlchkolcmhpaaGreatDoor
open Go.RowKit Go.Shelf
open Go.TextMath (tvB mvB text word)
open Go.FlowMath (sg)

theorem at_T {w : World} {tb : Nat} {T : List (List Int)} {i j : Nat} (hr : Tab .i64 w (some ⟨tb, 0, none⟩) tb 0 T) (hv : tvB T = true) (hi : i < T.length) (hj : j < (T.getD 0 []).length) :
    ∃ b o c, w.cell? ⟨tb, i, none⟩ = some (.slice (some ⟨b, o, none⟩) (T.getD 0 []).length c) ∧ w.cell? ⟨b, o + j, none⟩ = some (.int .i64 (cellT T i j)) ∧ (T.getD 0 []).length ≤ c ∧ tb < w.heap.size ∧ b < w.heap.size := by
  obtain ⟨a', b', o', c', h1, h2, h3, -⟩ := hr.2 i hi
  rw [((tv_t.1 hv).2.2.2.2 i hi).1, Nat.zero_add] at h1
  rw [((tv_t.1 hv).2.2.2.2 i hi).1] at h3
  have hj' : j < (T.getD i []).length := by rw [((tv_t.1 hv).2.2.2.2 i hi).1]; exact hj
  obtain rfl := h2.1 (by omega)
  have h4 := h2.2 j hj'
  exact ⟨b', o', c', h1, h4, h3, World.block_lt_of_cell? _ _ h1, World.block_lt_of_cell? _ _ h4⟩
theorem at_M {w : World} {mb : Nat} {T : List (List Int)} {M : List (List Bool)} {i j : Nat} (hm : TabB w (some ⟨mb, 0, none⟩) mb 0 M) (hf : FitM T M) (hi : i < T.length) (hj : j < (T.getD 0 []).length) :
    ∃ b o c, w.cell? ⟨mb, i, none⟩ = some (.slice (some ⟨b, o, none⟩) (T.getD 0 []).length c) ∧ w.cell? ⟨b, o + j, none⟩ = some (.bool (flagM M i j)) ∧ (T.getD 0 []).length ≤ c ∧ mb < w.heap.size ∧ b < w.heap.size := by
  obtain ⟨a', b', o', c', h1, h2, h3, -⟩ := hm.2 i (by rw [hf.1]; exact hi)
  rw [hf.2 i hi, Nat.zero_add] at h1
  rw [hf.2 i hi] at h3
  have hj' : j < (M.getD i []).length := by rw [hf.2 i hi]; exact hj
  obtain rfl := h2.1 (by omega)
  have h4 := h2.2 j hj'
  exact ⟨b', o', c', h1, h4, h3, World.block_lt_of_cell? _ _ h1, World.block_lt_of_cell? _ _ h4⟩

set_option maxHeartbeats 1000000 in
theorem hasCellI (tb ct : Nat) (T : List (List Int)) (mb cm : Nat) (M : List (List Bool)) (i j : Nat) (w : World) (hr : Tab .i64 w (some ⟨tb, 0, none⟩) tb 0 T) (hm : TabB w (some ⟨mb, 0, none⟩) mb 0 M) (hv : mvB T M = true) (hi : i < T.length) (hj : j < (T.getD 0 []).length) :
    Calls Tryz.prog 149 #[.slice (some ⟨tb, 0, none⟩) T.length ct, .slice (some ⟨mb, 0, none⟩) T.length cm, .int .i64 (i : Int), .int .i64 (j : Int)] w fun e w' => e = .returned (.bool true) ∧ w = w' := by
  have HV := Lib.hid hv
  have HR := Lib.hid hr
  have HMK := Lib.hid hm
  have hf := fitM_of hv
  obtain ⟨hT1, hT4, hC1, hC4, -⟩ := tv_t.1 (mv_t.1 hv).1
  obtain ⟨b0, o0, c0, h1, -, h2, -, -⟩ := at_T hr (mv_t.1 hv).1 (i := 0) (by omega) hj
  obtain ⟨q, hq⟩ : ∃ q, (T.getD 0 []).length = q := ⟨_, rfl⟩
  rw [hq] at h1 h2 hj hC1 hC4
  have HMV := Lib.hid (show Calls Tryz.prog 77 #[.slice (some ⟨tb, 0, none⟩) T.length ct, .slice (some ⟨mb, 0, none⟩) T.length cm] w fun e w' => e = .returned (.bool true) ∧ w = w' from by
    have := maskValidI (some ⟨tb, 0, none⟩) tb 0 ct T (some ⟨mb, 0, none⟩) mb 0 cm M w hr (by omega) hm (by rw [hf.1]; omega)
    rwa [hf.1, hv] at this)
  obtain ⟨h, hh⟩ : ∃ h, T.length = h := ⟨_, rfl⟩
  rw [hh] at HMV hi hT1 hT4 ⊢
  have hii : (i : Int) < (h : Int) := by omega
  have hjj : (j : Int) < (q : Int) := by omega
  have hi0 : (0 : Int) ≤ (i : Int) := by omega
  have hj0 : (0 : Int) ≤ (j : Int) := by omega
  have hh0 : (0 : Int) < (h : Int) := by omega
  clear hr hm hv hf hq hh
  go_enter Tryz.func149, Tryz.ntmps149
  go_wp2_with fail
  refine (HMV.out).mono ?_
  rintro e w' ⟨rfl, rfl⟩
  go_wp2_with fail
  go_ret
  exact ⟨by first | rfl | (simp; omega), rfl⟩

set_option maxHeartbeats 1000000 in
theorem isCellI (n : Int) (w : World) (hn : cellB n = true) : Calls Tryz.prog 114 #[.int .i64 n] w fun e w' => e = .returned (.bool true) ∧ w = w' := by
  obtain ⟨h0, h1⟩ : 0 ≤ n ∧ n ≤ 99 := by simpa [cellB] using hn
  clear hn
  go_enter Tryz.func114, Tryz.ntmps114
  go_wp2_with fail
  go_ret
  exact ⟨by first | rfl | (simp; omega), rfl⟩

theorem isCellI_f (n : Int) (w : World) (hn : cellB n = false) : Calls Tryz.prog 114 #[.int .i64 n] w fun e w' => e = .returned (.bool false) ∧ w = w' := by
  have hx : ¬ (0 ≤ n ∧ n ≤ 99) := by simpa [cellB] using hn
  clear hn
  by_cases h0 : 0 ≤ n
  · have h1 : ¬ n ≤ 99 := fun h => hx ⟨h0, h⟩
    clear hx
    go_enter Tryz.func114, Tryz.ntmps114
    go_wp2_with fail
    go_ret
    exact ⟨by first | rfl | (simp; omega), rfl⟩
  · clear hx
    go_enter Tryz.func114, Tryz.ntmps114
    go_wp2_with fail
    go_ret
    exact ⟨by first | rfl | (simp; omega), rfl⟩

set_option maxHeartbeats 2000000 in
theorem highI (tb ct : Nat) (T : List (List Int)) (mb cm : Nat) (M : List (List Bool)) (i j : Nat) (w : World) (hr : Tab .i64 w (some ⟨tb, 0, none⟩) tb 0 T) (hm : TabB w (some ⟨mb, 0, none⟩) mb 0 M) (hv : mvB T M = true) (hi : i < T.length) (hj : j < (T.getD 0 []).length) :
    Calls Tryz.prog 170 #[.slice (some ⟨tb, 0, none⟩) T.length ct, .slice (some ⟨mb, 0, none⟩) T.length cm, .int .i64 (i : Int), .int .i64 (j : Int)] w fun e w' => e = .returned (.int .i64 (highM T M i j)) ∧ Below w.heap.size w w' := by
  have hf := fitM_of hv
  have htv := (mv_t.1 hv).1
  have HHC := Lib.hid (hasCellI tb ct T mb cm M i j w hr hm hv hi hj)
  obtain ⟨b1, o1, c1, r1, r2, r3, r4, r5⟩ := at_T hr htv hi hj
  obtain ⟨b2, o2, c2, m1, m2, m3, m4, m5⟩ := at_M hm hf hi hj
  have hEB := ext_bounds (M := M) htv hi hj true
  obtain ⟨x, hx⟩ : ∃ x, cellT T i j = x := ⟨_, rfl⟩
  have hx0 : 0 ≤ x ∧ x ≤ 99 := by
    rw [← hx]
    exact ⟨(tv_bounds htv).1 i hi j hj, (tv_bounds htv).2 i hi j hj⟩
  have HSH := Lib.hid (fun (fl : flagM M i j = true) (W : World) (h1 : Tab .i64 W (some ⟨tb, 0, none⟩) tb 0 T) (h2 : TabB W (some ⟨mb, 0, none⟩) mb 0 M) => shiftI tb ct T mb cm M i j true W h1 h2 htv hf hi hj fl)
  have HVAL := Lib.hid (show highM T M i j = if flagM M i j then extM T M i j true else x by rw [← hx]; rfl)
  have HR := Lib.hid hr
  have HMK := Lib.hid hm
  obtain ⟨fl, hfl⟩ : ∃ fl, flagM M i j = fl := ⟨_, rfl⟩
  rw [hx] at r2 hEB
  rw [hfl] at m2
  have HFL := Lib.hid hfl
  have HX := Lib.hid hx
  obtain ⟨q, hq⟩ : ∃ q, (T.getD 0 []).length = q := ⟨_, rfl⟩
  rw [hq] at r1 r3 m1 m3 hj
  obtain ⟨h, hh⟩ : ∃ h, T.length = h := ⟨_, rfl⟩
  rw [hh] at HHC HSH hi ⊢
  have HH := Lib.hid hh
  have hii : (i : Int) < (h : Int) := by omega
  have hjj : (j : Int) < (q : Int) := by omega
  obtain ⟨X, hX⟩ : ∃ X, extM T M i j true = X := ⟨_, rfl⟩
  have HXX := Lib.hid hX
  rw [hX] at hEB
  have HEB := Lib.hid hEB
  clear hr hm hv hf htv hq hh hfl hx hX hEB
  cases fl with
  | false =>
    go_enter Tryz.func170, Tryz.ntmps170
    go_wp2_with fail
    refine (HHC.out).mono ?_
    rintro e w' ⟨rfl, rfl⟩
    go_wp2_with fail
    go_ret
    exact ⟨by rw [HVAL.out, HFL.out]; rfl, Below.refl _ _⟩
  | true =>
    go_enter Tryz.func170, Tryz.ntmps170
    go_wp2_with fail
    refine (HHC.out).mono ?_
    rintro e w' ⟨rfl, rfl⟩
    go_wp2_with fail
    go_region_with (go_at_call 180; refine (HSH.out HFL.out w.drew HR.out HMK.out).mono ?_; rintro e w' ⟨F, rfl, hF, hb⟩; have HBX := Lib.hid hb; have d1 := (hb.cell (p := ⟨tb, i, none⟩) r4).trans r1; have d2 := (hb.cell (p := ⟨b1, o1 + j, none⟩) r5).trans r2; have hF1 : x + F = X := (by rw [HX.out, HXX.out] at hF; simp [sg] at hF; omega); have hF2 : IntKind.i64.wrap (x + F) = X := (by rw [hF1]; exact IntWalk.i64_in _ (by have := HEB.out; omega)); have HF1 := Lib.hid hF1; clear hF hF1 hb)
    all_goals
      go_wp2_with fail
      go_ret
      refine ⟨by rw [HVAL.out, HFL.out, if_pos rfl, HXX.out]; rfl, ?_⟩
      first
        | exact HBX.out
        | exact (Below.refl w.heap.size w).drew.trans HBX.out

set_option maxHeartbeats 2000000 in
theorem lowI (tb ct : Nat) (T : List (List Int)) (mb cm : Nat) (M : List (List Bool)) (i j : Nat) (w : World) (hr : Tab .i64 w (some ⟨tb, 0, none⟩) tb 0 T) (hm : TabB w (some ⟨mb, 0, none⟩) mb 0 M) (hv : mvB T M = true) (hi : i < T.length) (hj : j < (T.getD 0 []).length) :
    Calls Tryz.prog 171 #[.slice (some ⟨tb, 0, none⟩) T.length ct, .slice (some ⟨mb, 0, none⟩) T.length cm, .int .i64 (i : Int), .int .i64 (j : Int)] w fun e w' => e = .returned (.int .i64 (lowM T M i j)) ∧ Below w.heap.size w w' := by
  have hf := fitM_of hv
  have htv := (mv_t.1 hv).1
  have HHC := Lib.hid (hasCellI tb ct T mb cm M i j w hr hm hv hi hj)
  obtain ⟨b1, o1, c1, r1, r2, r3, r4, r5⟩ := at_T hr htv hi hj
  obtain ⟨b2, o2, c2, m1, m2, m3, m4, m5⟩ := at_M hm hf hi hj
  have hEB := ext_bounds (M := M) htv hi hj false
  obtain ⟨x, hx⟩ : ∃ x, cellT T i j = x := ⟨_, rfl⟩
  have hx0 : 0 ≤ x ∧ x ≤ 99 := by
    rw [← hx]
    exact ⟨(tv_bounds htv).1 i hi j hj, (tv_bounds htv).2 i hi j hj⟩
  have HSH := Lib.hid (fun (fl : flagM M i j = true) (W : World) (h1 : Tab .i64 W (some ⟨tb, 0, none⟩) tb 0 T) (h2 : TabB W (some ⟨mb, 0, none⟩) mb 0 M) => shiftI tb ct T mb cm M i j false W h1 h2 htv hf hi hj fl)
  have HVAL := Lib.hid (show lowM T M i j = if flagM M i j then max 0 (extM T M i j false) else x by rw [← hx]; rfl)
  have HR := Lib.hid hr
  have HMK := Lib.hid hm
  obtain ⟨fl, hfl⟩ : ∃ fl, flagM M i j = fl := ⟨_, rfl⟩
  rw [hx] at r2 hEB
  rw [hfl] at m2
  have HFL := Lib.hid hfl
  have HX := Lib.hid hx
  obtain ⟨q, hq⟩ : ∃ q, (T.getD 0 []).length = q := ⟨_, rfl⟩
  rw [hq] at r1 r3 m1 m3 hj
  obtain ⟨h, hh⟩ : ∃ h, T.length = h := ⟨_, rfl⟩
  rw [hh] at HHC HSH hi ⊢
  have HH := Lib.hid hh
  have hii : (i : Int) < (h : Int) := by omega
  have hjj : (j : Int) < (q : Int) := by omega
  obtain ⟨X, hX⟩ : ∃ X, extM T M i j false = X := ⟨_, rfl⟩
  have HXX := Lib.hid hX
  rw [hX] at hEB
  have HEB := Lib.hid hEB
  clear hr hm hv hf htv hq hh hfl hx hX hEB
  cases fl with
  | false =>
    go_enter Tryz.func171, Tryz.ntmps171
    go_wp2_with fail
    refine (HHC.out).mono ?_
    rintro e w' ⟨rfl, rfl⟩
    go_wp2_with fail
    go_ret
    exact ⟨by rw [HVAL.out, HFL.out]; rfl, Below.refl _ _⟩
  | true =>
    go_enter Tryz.func171, Tryz.ntmps171
    go_wp2_with fail
    refine (HHC.out).mono ?_
    rintro e w' ⟨rfl, rfl⟩
    go_wp2_with fail
    go_region_with (go_at_call 180; refine (HSH.out HFL.out w.drew HR.out HMK.out).mono ?_; rintro e w' ⟨F, rfl, hF, hb⟩; have HBX := Lib.hid hb; have d1 := (hb.cell (p := ⟨tb, i, none⟩) r4).trans r1; have d2 := (hb.cell (p := ⟨b1, o1 + j, none⟩) r5).trans r2; have hF1 : x - F = X := (by rw [HX.out, HXX.out] at hF; simp [sg] at hF; omega); have hF2 : IntKind.i64.wrap (x - F) = X := (by rw [hF1]; exact IntWalk.i64_in _ (by have := HEB.out; omega)); have HF1 := Lib.hid hF1; clear hF hF1 hb)
    all_goals
      go_wp2_with fail
      go_ret
      refine ⟨by rw [HVAL.out, HFL.out, if_pos rfl, HXX.out]; rfl, ?_⟩
      first
        | exact HBX.out
        | exact (Below.refl w.heap.size w).drew.trans HBX.out
end Go.Proofs.YtlmlchkolcmhpaaGreatDoor
