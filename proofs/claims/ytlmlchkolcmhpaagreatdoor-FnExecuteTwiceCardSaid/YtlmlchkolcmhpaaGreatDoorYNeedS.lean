/-
  Contracts: spec.l14Safe, spec.PatternNeed, spec.PatternOk, spec.l14First.
-/
import Derived.Test.YtlmlchkolcmhpaaGreatDoorYHighS
namespace Go.Proofs.YtlmlchkolcmhpaaGreatDoor
open Go.RowKit
open Go.TextMath (tvB mvB)

set_option maxHeartbeats 4000000 in
theorem safeS (tb ct : Nat) (T : List (List Int)) (mb cm : Nat) (M : List (List Bool)) (i j : Nat) (n : Int) (w : World) (hr : Tab .i64 w (some ⟨tb, 0, none⟩) tb 0 T) (hm : TabB w (some ⟨mb, 0, none⟩) mb 0 M) (hv : mvB T M = true) (hn : cellB n = true) (hi : i < T.length) (hj : j < (T.getD 0 []).length) :
    Calls Tryz.prog 158 #[.slice (some ⟨tb, 0, none⟩) T.length ct, .slice (some ⟨mb, 0, none⟩) T.length cm, .int .i64 (i : Int), .int .i64 (j : Int), .int .i64 n] w fun e w' => e = .returned (.bool (flagM M i j && safeM T M n i j)) ∧ Below w.heap.size w w' := by
  obtain ⟨hn0, hn1⟩ : 0 ≤ n ∧ n ≤ 99 := by simpa [cellB] using hn
  have htv := (mv_t.1 hv).1
  have hf := fitM_of hv
  obtain ⟨hT1, hT4, hC1, hC4, hT5⟩ := tv_t.1 htv
  have RT : Rect T T.length (T.getD 0 []).length := ⟨rfl, fun k hk => (hT5 k hk).1⟩
  have RM : Rect M T.length (T.getD 0 []).length := ⟨hf.1, hf.2⟩
  obtain ⟨b1, o1, c1, r1, r2, r3, r4, r5⟩ := RT.cellI hr hi hj
  obtain ⟨b2, o2, c2, m1, m2, m3, m4, m5⟩ := RM.cellB hm hi hj
  have HHI := Lib.hid (fun (W : World) (hb : Below w.heap.size w W) => highS tb ct T mb cm M i j W (hr.keep hb (Nat.le_refl _)) (hm.keep hb (Nat.le_refl _)) hv hi hj)
  have HLO := Lib.hid (fun (W : World) (hb : Below w.heap.size w W) => lowS tb ct T mb cm M i j W (hr.keep hb (Nat.le_refl _)) (hm.keep hb (Nat.le_refl _)) hv hi hj)
  obtain ⟨x, hx⟩ : ∃ x, cellT T i j = x := ⟨_, rfl⟩
  obtain ⟨X, hX⟩ : ∃ X, highM T M i j = X := ⟨_, rfl⟩
  obtain ⟨L, hL⟩ : ∃ L, lowM T M i j = L := ⟨_, rfl⟩
  have hx0 : 0 ≤ x ∧ x ≤ 99 := by
    rw [← hx]
    exact ⟨(tv_bounds htv).1 i hi j hj, (tv_bounds htv).2 i hi j hj⟩
  obtain ⟨xn, hxn⟩ : ∃ xn, x + n = xn := ⟨_, rfl⟩
  obtain ⟨xm, hxm⟩ : ∃ xm, x - n = xm := ⟨_, rfl⟩
  have hw1 : IntKind.i64.wrap (x + n) = xn := by rw [hxn]; exact IntWalk.i64_in _ (by omega)
  have hw2 : IntKind.i64.wrap (x - n) = xm := by rw [hxm]; exact IntWalk.i64_in _ (by omega)
  have HVAL := Lib.hid (show safeM T M n i j = decide (xn ≤ X ∧ L ≤ max 0 xm) by unfold safeM; rw [hx, hX, hL, hxn, hxm])
  rw [hx] at r2
  rw [hX] at HHI
  rw [hL] at HLO
  obtain ⟨fl, hfl⟩ : ∃ fl, flagM M i j = fl := ⟨_, rfl⟩
  rw [hfl] at m2 ⊢
  obtain ⟨q, hq⟩ : ∃ q, (T.getD 0 []).length = q := ⟨_, rfl⟩
  rw [hq] at r1 r3 m1 m3 hj
  obtain ⟨h, hh⟩ : ∃ h, T.length = h := ⟨_, rfl⟩
  rw [hh] at HHI HLO hi ⊢
  have hii : (i : Int) < (h : Int) := by omega
  have hjj : (j : Int) < (q : Int) := by omega
  clear hr hm hv htv hq hh hx hX hL hxn hxm hn hx0 hn0 hn1 hf RT RM hT5 hfl
  cases fl with
  | false =>
    go_enter Tryz.func158, Tryz.ntmps158
    go_wp2_with fail
    go_ret
    exact ⟨rfl, Below.refl _ _⟩
  | true =>
    by_cases hc : xn ≤ X
    · by_cases hm0 : 0 ≤ xm
      · have hmx : max 0 xm = xm := by omega
        rw [hmx] at HVAL
        have HE := Lib.hid (show safeM T M n i j = decide (L ≤ xm) by rw [HVAL.out]; exact decide_eq_decide.2 ⟨fun h => h.2, fun h => ⟨hc, h⟩⟩)
        go_enter Tryz.func158, Tryz.ntmps158
        go_wp2_with fail
        refine (HHI.out w (Below.refl _ _)).mono ?_
        rintro e w2 ⟨rfl, hb2⟩
        have HB2 := Lib.hid hb2
        clear hb2
        go_wp2_with fail
        refine (HLO.out w2 HB2.out).mono ?_
        rintro e w3 ⟨rfl, hb3⟩
        have HB3 := Lib.hid (HB2.out.trans (hb3.mono HB2.out.size))
        clear hb3
        go_wp2_with fail
        go_ret
        exact ⟨by rw [HE.out]; rfl, HB3.out⟩
      · have hmx : max 0 xm = 0 := by omega
        rw [hmx] at HVAL
        have hm0' : xm ≤ 0 := by omega
        have HE := Lib.hid (show safeM T M n i j = decide (L ≤ 0) by rw [HVAL.out]; exact decide_eq_decide.2 ⟨fun h => h.2, fun h => ⟨hc, h⟩⟩)
        go_enter Tryz.func158, Tryz.ntmps158
        go_wp2_with fail
        refine (HHI.out w (Below.refl _ _)).mono ?_
        rintro e w2 ⟨rfl, hb2⟩
        have HB2 := Lib.hid hb2
        clear hb2
        go_wp2_with fail
        refine (HLO.out w2 HB2.out).mono ?_
        rintro e w3 ⟨rfl, hb3⟩
        have HB3 := Lib.hid (HB2.out.trans (hb3.mono HB2.out.size))
        clear hb3
        go_wp2_with fail
        go_ret
        exact ⟨by rw [HE.out]; rfl, HB3.out⟩
    · have HE := Lib.hid (show safeM T M n i j = false by rw [HVAL.out]; exact decide_eq_false (fun h => hc h.1))
      go_enter Tryz.func158, Tryz.ntmps158
      go_wp2_with fail
      refine (HHI.out w (Below.refl _ _)).mono ?_
      rintro e w2 ⟨rfl, hb2⟩
      have HB2 := Lib.hid hb2
      clear hb2
      go_wp2_with fail
      go_ret
      exact ⟨by rw [HE.out]; rfl, HB2.out⟩

theorem need_upto {T : List (List Int)} {F M : List (List Bool)} {n : Int} {k z : Nat} : ((upto (lensT T) k (z + 1)).filter (badM T F M n)).length = ((upto (lensT T) k z).filter (badM T F M n)).length + if badM T F M n (k, z) then 1 else 0 := by
  rw [upto_next, List.filter_append, List.length_append, List.filter_cons]
  split <;> simp
theorem need_le {T : List (List Int)} {F M : List (List Bool)} {n : Int} (hv : tvB T = true) {k z : Nat} (hk : k < T.length) (hz : z ≤ (T.getD 0 []).length) : ((upto (lensT T) k z).filter (badM T F M n)).length ≤ 16 := by
  obtain ⟨-, hT4, -, hC4, h5⟩ := tv_t.1 hv
  refine Nat.le_trans (List.length_filter_le _ _) ?_
  have h1 := (upto_prefix (lensT T) (i := k) (j := z) (by rw [lensT_len]; exact hk) (by rw [lensT_at T hk, (h5 k hk).1]; exact hz)).length_le
  refine Nat.le_trans h1 ?_
  unfold poss
  rw [List.length_flatMap]
  simp only [List.length_map, List.length_range]
  have h2 : ∀ l : List Nat, (∀ i ∈ l, i < T.length) → (l.map fun i => (lensT T).getD i 0).sum ≤ 4 * l.length := by
    intro l
    induction l with
    | nil => intro _; simp
    | cons a l ih =>
      intro h
      have h3 := ih fun i hi => h i (by simp [hi])
      have h4 : (lensT T).getD a 0 ≤ 4 := by rw [lensT_at T (h a (by simp)), (h5 a (h a (by simp))).1]; exact hC4
      simp only [List.map_cons, List.sum_cons, List.length_cons]
      omega
  have := h2 (List.range (lensT T).length) fun i hi => by rw [← lensT_len]; exact List.mem_range.1 hi
  rw [List.length_range, lensT_len] at this
  rw [lensT_len]
  omega

set_option maxHeartbeats 4000000 in
theorem needS_f (tb ct : Nat) (T : List (List Int)) (fb cf : Nat) (F : List (List Bool)) (mb cm : Nat) (M : List (List Bool)) (n : Int) (w : World) (hr : Tab .i64 w (some ⟨tb, 0, none⟩) tb 0 T) (hfm : TabB w (some ⟨fb, 0, none⟩) fb 0 F) (hm : TabB w (some ⟨mb, 0, none⟩) mb 0 M) (hvf : mvB T F = true) (hv : mvB T M = true) (hn : cellB n = false) :
    Calls Tryz.prog 131 #[.slice (some ⟨tb, 0, none⟩) T.length ct, .slice (some ⟨fb, 0, none⟩) T.length cf, .slice (some ⟨mb, 0, none⟩) T.length cm, .int .i64 n] w fun e w' => e = .returned (.int .i64 (-1)) ∧ Below w.heap.size w w' := by
  have htv := (mv_t.1 hv).1
  have hf := fitM_of hv
  have hff := fitM_of hvf
  obtain ⟨hT1, hT4, hC1, hC4, -⟩ := tv_t.1 htv
  have HMV1 := Lib.hid (fun (W : World) (hb : Below w.heap.size w W) => (show Calls Tryz.prog 130 #[.slice (some ⟨tb, 0, none⟩) T.length ct, .slice (some ⟨fb, 0, none⟩) T.length cf] W fun e w' => e = .returned (.bool true) ∧ ∃ q, w' = W.drewN q from by
    have := maskValidS (some ⟨tb, 0, none⟩) tb 0 ct T (some ⟨fb, 0, none⟩) fb 0 cf F W (hr.keep hb (Nat.le_refl _)) (by omega) (hfm.keep hb (Nat.le_refl _)) (by rw [hff.1]; omega)
    rwa [hff.1, hvf] at this))
  have HMV2 := Lib.hid (fun (W : World) (hb : Below w.heap.size w W) => (show Calls Tryz.prog 130 #[.slice (some ⟨tb, 0, none⟩) T.length ct, .slice (some ⟨mb, 0, none⟩) T.length cm] W fun e w' => e = .returned (.bool true) ∧ ∃ q, w' = W.drewN q from by
    have := maskValidS (some ⟨tb, 0, none⟩) tb 0 ct T (some ⟨mb, 0, none⟩) mb 0 cm M W (hr.keep hb (Nat.le_refl _)) (by omega) (hm.keep hb (Nat.le_refl _)) (by rw [hf.1]; omega)
    rwa [hf.1, hv] at this))
  have HNC := Lib.hid (show ¬ (0 ≤ n ∧ n ≤ 99) by simpa [cellB] using hn)
  clear hr hfm hm hv hvf hf hff htv hn
  go_enter Tryz.func131, Tryz.ntmps131
  go_wp2_with fail
  refine (HMV1.out w (Below.refl _ _)).mono ?_
  rintro e w' ⟨rfl, z1, rfl⟩
  go_wp2_with fail
  refine (HMV2.out _ (below_draws w z1)).mono ?_
  rintro e w' ⟨rfl, z2, rfl⟩
  go_wp2_with fail
  refine (in_no _ _ _ _ HNC.out).mono ?_
  rintro e w' ⟨rfl, rfl⟩
  go_wp2_with fail
  go_ret
  exact ⟨rfl, below_draws w _⟩

set_option maxRecDepth 100000 in
set_option maxHeartbeats 8000000 in
theorem needS (tb ct : Nat) (T : List (List Int)) (fb cf : Nat) (F : List (List Bool)) (mb cm : Nat) (M : List (List Bool)) (n : Int) (w : World) (hr : Tab .i64 w (some ⟨tb, 0, none⟩) tb 0 T) (hfm : TabB w (some ⟨fb, 0, none⟩) fb 0 F) (hm : TabB w (some ⟨mb, 0, none⟩) mb 0 M) (hvf : mvB T F = true) (hv : mvB T M = true) (hn : cellB n = true) :
    Calls Tryz.prog 131 #[.slice (some ⟨tb, 0, none⟩) T.length ct, .slice (some ⟨fb, 0, none⟩) T.length cf, .slice (some ⟨mb, 0, none⟩) T.length cm, .int .i64 n] w fun e w' => e = .returned (.int .i64 (((badsM T F M n).length : Nat) : Int)) ∧ Below w.heap.size w w' := by
  have htv := (mv_t.1 hv).1
  have hf := fitM_of hv
  have hff := fitM_of hvf
  obtain ⟨hT1, hT4, hC1, hC4, hT5⟩ := tv_t.1 htv
  have RT : Rect T T.length (T.getD 0 []).length := ⟨rfl, fun k hk => (hT5 k hk).1⟩
  have RF : Rect F T.length (T.getD 0 []).length := ⟨hff.1, hff.2⟩
  obtain ⟨b1, o1, c1, r1, -, r3, r4, r5⟩ := RT.cellI hr (i := 0) (j := 0) (by omega) (by omega)
  have HFC := Lib.hid (fun k z (hk : k < T.length) (hz : z < (T.getD 0 []).length) => RF.cellB hfm (i := k) (j := z) hk hz)
  have HSAFE := Lib.hid (fun (k z : Nat) (hk : k < T.length) (hz : z < (T.getD 0 []).length) (W : World) (hb : Below w.heap.size w W) => safeS tb ct T mb cm M k z n W (hr.keep hb (Nat.le_refl _)) (hm.keep hb (Nat.le_refl _)) hv hn hk hz)
  have HMV1 := Lib.hid (fun (W : World) (hb : Below w.heap.size w W) => (show Calls Tryz.prog 130 #[.slice (some ⟨tb, 0, none⟩) T.length ct, .slice (some ⟨fb, 0, none⟩) T.length cf] W fun e w' => e = .returned (.bool true) ∧ ∃ q, w' = W.drewN q from by
    have := maskValidS (some ⟨tb, 0, none⟩) tb 0 ct T (some ⟨fb, 0, none⟩) fb 0 cf F W (hr.keep hb (Nat.le_refl _)) (by omega) (hfm.keep hb (Nat.le_refl _)) (by rw [hff.1]; omega)
    rwa [hff.1, hvf] at this))
  have HMV2 := Lib.hid (fun (W : World) (hb : Below w.heap.size w W) => (show Calls Tryz.prog 130 #[.slice (some ⟨tb, 0, none⟩) T.length ct, .slice (some ⟨mb, 0, none⟩) T.length cm] W fun e w' => e = .returned (.bool true) ∧ ∃ q, w' = W.drewN q from by
    have := maskValidS (some ⟨tb, 0, none⟩) tb 0 ct T (some ⟨mb, 0, none⟩) mb 0 cm M W (hr.keep hb (Nat.le_refl _)) (by omega) (hm.keep hb (Nat.le_refl _)) (by rw [hf.1]; omega)
    rwa [hf.1, hv] at this))
  have HN := Lib.hid (show 0 ≤ n ∧ n ≤ 99 by simpa [cellB] using hn)
  have HLE := Lib.hid (fun k z (hk : k < T.length) (hz : z ≤ (T.getD 0 []).length) => need_le (F := F) (M := M) (n := n) htv hk hz)
  have HST := Lib.hid (fun k z => need_upto (T := T) (F := F) (M := M) (n := n) (k := k) (z := z))
  have HALL := Lib.hid (show (badsM T F M n).length = ((upto (lensT T) T.length 0).filter (badM T F M n)).length by unfold badsM; rw [← upto_all, lensT_len])
  have HROW := Lib.hid (fun k (hk : k < T.length) => (show ((upto (lensT T) k (T.getD 0 []).length).filter (badM T F M n)).length = ((upto (lensT T) (k + 1) 0).filter (badM T F M n)).length by rw [← upto_row, lensT_at T hk, (hT5 k hk).1]))
  obtain ⟨N, hN⟩ : ∃ N : Nat → Nat → Nat, (fun k z => ((upto (lensT T) k z).filter (badM T F M n)).length) = N := ⟨_, rfl⟩
  have hN' : ∀ k z, ((upto (lensT T) k z).filter (badM T F M n)).length = N k z := fun k z => congrFun (congrFun hN k) z
  have HN00 := Lib.hid (show N 0 0 = 0 by rw [← hN' 0 0]; rfl)
  simp only [hN'] at HLE HST HALL HROW
  obtain ⟨BL, hBL⟩ : ∃ BL, (badsM T F M n).length = BL := ⟨_, rfl⟩
  rw [hBL] at HALL ⊢
  clear hN hN' hBL
  obtain ⟨q, hq⟩ : ∃ q, (T.getD 0 []).length = q := ⟨_, rfl⟩
  rw [hq] at r1 r3 hC1 hC4 HFC HSAFE HLE HROW
  obtain ⟨h, hh⟩ : ∃ h, T.length = h := ⟨_, rfl⟩
  rw [hh] at hT1 hT4 HFC HSAFE HLE HROW HALL HMV1 HMV2 ⊢
  clear hq hh
  have hh0 : (0 : Int) < (h : Int) := by omega
  clear hr hfm hm hv hvf hf hff htv hn hT5 RT RF
  go_enter Tryz.func131, Tryz.ntmps131
  go_wp2_with fail
  refine (HMV1.out w (Below.refl _ _)).mono ?_
  rintro e w' ⟨rfl, z1, rfl⟩
  go_wp2_with fail
  refine (HMV2.out _ (below_draws w z1)).mono ?_
  rintro e w' ⟨rfl, z2, rfl⟩
  go_wp2_with fail
  refine (in_yes _ _ _ _ HN.out.1 HN.out.2).mono ?_
  rintro e w' ⟨rfl, rfl⟩
  have HB0 := Lib.hid (below_draws w (z1 + z2))
  obtain ⟨w0, hw0⟩ : ∃ w0, w.drewN (z1 + z2) = w0 := ⟨_, rfl⟩
  rw [hw0] at HB0 ⊢
  clear hw0 HMV1 HMV2
  go_wp2_with fail
  go_loopw [9, 10] (fun s t W => ∃ k : Nat, k ≤ h ∧ t = .int .i64 k ∧ s = .int .i64 ((N k 0 : Nat) : Int) ∧ Below w.heap.size w W) (fun _ t _ => h - (intOf t).toNat)
  case atStart => exact ⟨0, Nat.zero_le _, rfl, by rw [HN00.out]; rfl, HB0.out⟩
  case round =>
    clear HB0
    obtain ⟨k, hk, rfl, rfl, hb⟩ := hrel
    have HB := Lib.hid hb
    clear hb
    by_cases hlt : k < h
    · have hkh : (k : Int) < (h : Int) := by omega
      go_wp2_with fail
      go_loopw [9, 11] (fun s t W => ∃ z : Nat, z ≤ q ∧ t = .int .i64 z ∧ s = .int .i64 ((N k z : Nat) : Int) ∧ Below w.heap.size w W) (fun _ t _ => q - (intOf t).toNat)
      case atStart => exact ⟨0, Nat.zero_le _, rfl, rfl, HB.out⟩
      case round =>
        clear HB
        obtain ⟨z, hz, rfl, rfl, hb⟩ := hrel
        have HB := Lib.hid hb
        have r1' := (hb.cell (p := ⟨tb, 0, none⟩) r4).trans r1
        by_cases hzq : z < q
        · have hzz : (z : Int) < (q : Int) := by omega
          obtain ⟨b3, o3, c3, f1, f2, f3, f4, f5⟩ := HFC.out k z hlt hzq
          have f1' := (hb.cell (p := ⟨fb, k, none⟩) f4).trans f1
          have f2' := (hb.cell (p := ⟨b3, o3 + z, none⟩) f5).trans f2
          have HSA := Lib.hid (HSAFE.out k z hlt hzq wr hb)
          have hle := HLE.out k z hlt (by omega)
          have HS := Lib.hid (HST.out k z)
          have HBD := Lib.hid (show badM T F M n (k, z) = (flagM F k z && !(flagM M k z && safeM T M n k z)) from rfl)
          obtain ⟨ff, hff2⟩ : ∃ ff, flagM F k z = ff := ⟨_, rfl⟩
          obtain ⟨sf, hsf⟩ : ∃ sf, (flagM M k z && safeM T M n k z) = sf := ⟨_, rfl⟩
          rw [hff2] at f2' HBD
          rw [hsf] at HSA HBD
          obtain ⟨m, hm⟩ : ∃ m, N k z = m := ⟨_, rfl⟩
          rw [hm] at hle HS ⊢
          clear hb hff2 hsf hm f1 f2
          cases ff with
          | false =>
            have HX := Lib.hid (show N k (z + 1) = m by rw [HS.out, HBD.out]; rfl)
            clear HBD HS
            go_wp2_with fail
            go_roundw
            case rel => exact ⟨z + 1, by omega, by go_num, by rw [HX.out], HB.out⟩
            case measure => simp [intOf]; omega
          | true =>
            cases sf with
            | true =>
              have HX := Lib.hid (show N k (z + 1) = m by rw [HS.out, HBD.out]; rfl)
              clear HBD HS
              go_wp2_with fail
              refine (HSA.out).mono ?_
              rintro e w5 ⟨rfl, hb5⟩
              have HB5 := Lib.hid (HB.out.trans (hb5.mono HB.out.size))
              clear hb5
              go_wp2_with fail
              go_roundw
              case rel => exact ⟨z + 1, by omega, by go_num, by rw [HX.out], HB5.out⟩
              case measure => simp [intOf]; omega
            | false =>
              have HX := Lib.hid (show N k (z + 1) = m + 1 by rw [HS.out, HBD.out]; rfl)
              clear HBD HS
              go_wp2_with fail
              refine (HSA.out).mono ?_
              rintro e w5 ⟨rfl, hb5⟩
              have HB5 := Lib.hid (HB.out.trans (hb5.mono HB.out.size))
              clear hb5
              go_wp2_with fail
              go_roundw
              case rel => exact ⟨z + 1, by omega, by go_num, by rw [HX.out]; go_num, HB5.out⟩
              case measure => simp [intOf]; omega
        · obtain rfl : z = q := by omega
          have HRW := Lib.hid (HROW.out k hlt)
          have hzz : ¬ ((z : Int) < (z : Int)) := by omega
          clear hb
          go_wp2_with fail
          go_roundw
          case rel => exact ⟨k + 1, by omega, by go_num, by rw [HRW.out], HB.out⟩
          case measure => simp [intOf]; omega
    · obtain rfl : k = h := by omega
      go_wp2_with fail
      go_ret
      exact ⟨by rw [HALL.out]; rfl, HB.out⟩

set_option maxHeartbeats 2000000 in
theorem patOkS (tb ct : Nat) (T : List (List Int)) (fb cf : Nat) (F : List (List Bool)) (mb cm : Nat) (M : List (List Bool)) (n : Int) (w : World) (hr : Tab .i64 w (some ⟨tb, 0, none⟩) tb 0 T) (hfm : TabB w (some ⟨fb, 0, none⟩) fb 0 F) (hm : TabB w (some ⟨mb, 0, none⟩) mb 0 M) (hvf : mvB T F = true) (hv : mvB T M = true) (hn : cellB n = true) :
    Calls Tryz.prog 133 #[.slice (some ⟨tb, 0, none⟩) T.length ct, .slice (some ⟨fb, 0, none⟩) T.length cf, .slice (some ⟨mb, 0, none⟩) T.length cm, .int .i64 n] w fun e w' => e = .returned (.bool (decide (badsM T F M n = []))) ∧ Below w.heap.size w w' := by
  have HND := Lib.hid (needS tb ct T fb cf F mb cm M n w hr hfm hm hvf hv hn)
  obtain ⟨B, hB⟩ : ∃ B, badsM T F M n = B := ⟨_, rfl⟩
  rw [hB] at HND ⊢
  clear hr hfm hm hvf hv hn hB
  cases B with
  | nil =>
    go_enter Tryz.func133, Tryz.ntmps133
    go_wp2_with fail
    refine (HND.out).mono ?_
    rintro e w1 ⟨rfl, hb1⟩
    have HB1 := Lib.hid hb1
    clear hb1
    go_wp2_with fail
    go_ret
    exact ⟨by first | rfl | simp, HB1.out⟩
  | cons x r =>
    have hne : (((r.length + 1 : Nat) : Int) == 0) = false := by rw [beq_eq_false_iff_ne]; omega
    have hne2 : (((r.length : Int) + 1) == 0) = false := by rw [beq_eq_false_iff_ne]; omega
    go_enter Tryz.func133, Tryz.ntmps133
    go_wp2_with fail
    refine (HND.out).mono ?_
    rintro e w1 ⟨rfl, hb1⟩
    have HB1 := Lib.hid hb1
    clear hb1
    go_wp2_with fail
    go_ret
    exact ⟨by first | rfl | (simp; omega) | simp, HB1.out⟩

theorem first_at {T : List (List Int)} {F M : List (List Bool)} {n : Int} {k z : Nat} (hp : upto (lensT T) k (z + 1) <+: poss (lensT T)) (h1 : (upto (lensT T) k z).filter (badM T F M n) = []) (h2 : badM T F M n (k, z) = true) : ∃ r, badsM T F M n = (k, z) :: r := by
  obtain ⟨r, hr⟩ := hp
  refine ⟨r.filter (badM T F M n), ?_⟩
  unfold badsM
  rw [← hr, upto_next, List.filter_append, List.filter_append, h1, List.filter_cons, if_pos h2]
  rfl

set_option maxRecDepth 100000 in
set_option maxHeartbeats 8000000 in
theorem firstS (tb ct : Nat) (T : List (List Int)) (fb cf : Nat) (F : List (List Bool)) (mb cm : Nat) (M : List (List Bool)) (n : Int) (w : World) (hr : Tab .i64 w (some ⟨tb, 0, none⟩) tb 0 T) (hfm : TabB w (some ⟨fb, 0, none⟩) fb 0 F) (hm : TabB w (some ⟨mb, 0, none⟩) mb 0 M) (hvf : mvB T F = true) (hv : mvB T M = true) (hn : cellB n = true) (x : Nat × Nat) (xs : List (Nat × Nat)) (hbad : badsM T F M n = x :: xs) :
    Calls Tryz.prog 159 #[.slice (some ⟨tb, 0, none⟩) T.length ct, .slice (some ⟨fb, 0, none⟩) T.length cf, .slice (some ⟨mb, 0, none⟩) T.length cm, .int .i64 n] w fun e w' => e = .returned (.tuple #[.int .i64 (x.1 : Int), .int .i64 (x.2 : Int)]) ∧ Below w.heap.size w w' := by
  have htv := (mv_t.1 hv).1
  have hf := fitM_of hv
  have hff := fitM_of hvf
  obtain ⟨hT1, hT4, hC1, hC4, hT5⟩ := tv_t.1 htv
  have RT : Rect T T.length (T.getD 0 []).length := ⟨rfl, fun k hk => (hT5 k hk).1⟩
  have RF : Rect F T.length (T.getD 0 []).length := ⟨hff.1, hff.2⟩
  obtain ⟨b1, o1, c1, r1, -, r3, r4, r5⟩ := RT.cellI hr (i := 0) (j := 0) (by omega) (by omega)
  have HFC := Lib.hid (fun k z (hk : k < T.length) (hz : z < (T.getD 0 []).length) => RF.cellB hfm (i := k) (j := z) hk hz)
  have HSAFE := Lib.hid (fun (k z : Nat) (hk : k < T.length) (hz : z < (T.getD 0 []).length) (W : World) (hb : Below w.heap.size w W) => safeS tb ct T mb cm M k z n W (hr.keep hb (Nat.le_refl _)) (hm.keep hb (Nat.le_refl _)) hv hn hk hz)
  have HROW := Lib.hid (fun k (hk : k < T.length) => (show upto (lensT T) k (T.getD 0 []).length = upto (lensT T) (k + 1) 0 by rw [← upto_row, lensT_at T hk, (hT5 k hk).1]))
  have HPRE := Lib.hid (fun k z (hk : k < T.length) (hz : z < (T.getD 0 []).length) => upto_prefix (lensT T) (i := k) (j := z + 1) (by rw [lensT_len]; exact hk) (by rw [lensT_at T hk, (hT5 k hk).1]; exact hz))
  have HNO := Lib.hid (show ((upto (lensT T) T.length 0).filter (badM T F M n)) ≠ [] by
    have : upto (lensT T) T.length 0 = poss (lensT T) := by rw [← upto_all, lensT_len]
    rw [this]
    show badsM T F M n ≠ []
    rw [hbad]
    simp)
  have HBAD := Lib.hid hbad
  obtain ⟨q, hq⟩ : ∃ q, (T.getD 0 []).length = q := ⟨_, rfl⟩
  rw [hq] at r1 r3 hC1 hC4 HFC HSAFE HROW HPRE
  obtain ⟨h, hh⟩ : ∃ h, T.length = h := ⟨_, rfl⟩
  rw [hh] at hT1 hT4 HFC HSAFE HROW HPRE HNO ⊢
  clear hq hh
  have hh0 : (0 : Int) < (h : Int) := by omega
  clear hr hfm hm hv hvf hf hff htv hn hT5 RT RF hbad
  go_enter Tryz.func159, Tryz.ntmps159
  go_wp2_with fail
  go_loopw [10] (fun t W => ∃ k : Nat, k ≤ h ∧ t = .int .i64 k ∧ ((upto (lensT T) k 0).filter (badM T F M n)) = [] ∧ Below w.heap.size w W) (fun t _ => h - (intOf t).toNat)
  case atStart => exact ⟨0, Nat.zero_le _, rfl, rfl, Below.refl _ _⟩
  case round =>
    obtain ⟨k, hk, rfl, hnil, hb⟩ := hrel
    have HB := Lib.hid hb
    have HNIL := Lib.hid hnil
    clear hb hnil
    by_cases hlt : k < h
    · have hkh : (k : Int) < (h : Int) := by omega
      go_wp2_with fail
      go_loopw [11] (fun t W => ∃ z : Nat, z ≤ q ∧ t = .int .i64 z ∧ ((upto (lensT T) k z).filter (badM T F M n)) = [] ∧ Below w.heap.size w W) (fun t _ => q - (intOf t).toNat)
      case atStart => exact ⟨0, Nat.zero_le _, rfl, HNIL.out, HB.out⟩
      case round =>
        clear HB HNIL
        obtain ⟨z, hz, rfl, hnil, hb⟩ := hrel
        have HB := Lib.hid hb
        have HNIL := Lib.hid hnil
        have r1' := (hb.cell (p := ⟨tb, 0, none⟩) r4).trans r1
        by_cases hzq : z < q
        · have hzz : (z : Int) < (q : Int) := by omega
          obtain ⟨b3, o3, c3, f1, f2, f3, f4, f5⟩ := HFC.out k z hlt hzq
          have f1' := (hb.cell (p := ⟨fb, k, none⟩) f4).trans f1
          have f2' := (hb.cell (p := ⟨b3, o3 + z, none⟩) f5).trans f2
          have HSA := Lib.hid (HSAFE.out k z hlt hzq wr hb)
          have HBD := Lib.hid (show badM T F M n (k, z) = (flagM F k z && !(flagM M k z && safeM T M n k z)) from rfl)
          have HNX := Lib.hid (fun (e : badM T F M n (k, z) = false) => (show ((upto (lensT T) k (z + 1)).filter (badM T F M n)) = [] by rw [upto_next, List.filter_append, HNIL.out, List.filter_cons, if_neg (by rw [e]; decide)]; rfl))
          have HFI := Lib.hid (fun (e : badM T F M n (k, z) = true) => first_at (HPRE.out k z hlt hzq) HNIL.out e)
          obtain ⟨ff, hff2⟩ : ∃ ff, flagM F k z = ff := ⟨_, rfl⟩
          obtain ⟨sf, hsf⟩ : ∃ sf, (flagM M k z && safeM T M n k z) = sf := ⟨_, rfl⟩
          rw [hff2] at f2' HBD
          rw [hsf] at HSA HBD
          clear hb hff2 hsf f1 f2 hnil HNIL
          cases ff with
          | false =>
            have HX := Lib.hid (HNX.out (by rw [HBD.out]; rfl))
            clear HBD HNX HFI
            go_wp2_with fail
            go_roundw
            case rel => exact ⟨z + 1, by omega, by go_num, HX.out, HB.out⟩
            case measure => simp [intOf]; omega
          | true =>
            cases sf with
            | true =>
              have HX := Lib.hid (HNX.out (by rw [HBD.out]; rfl))
              clear HBD HNX HFI
              go_wp2_with fail
              refine (HSA.out).mono ?_
              rintro e w5 ⟨rfl, hb5⟩
              have HB5 := Lib.hid (HB.out.trans (hb5.mono HB.out.size))
              clear hb5
              go_wp2_with fail
              go_roundw
              case rel => exact ⟨z + 1, by omega, by go_num, HX.out, HB5.out⟩
              case measure => simp [intOf]; omega
            | false =>
              have HX := Lib.hid (HFI.out (by rw [HBD.out]; rfl))
              clear HBD HNX HFI
              go_wp2_with fail
              refine (HSA.out).mono ?_
              rintro e w5 ⟨rfl, hb5⟩
              have HB5 := Lib.hid (HB.out.trans (hb5.mono HB.out.size))
              clear hb5
              go_wp2_with fail
              go_ret2
              obtain ⟨r, hr⟩ := HX.out
              rw [HBAD.out] at hr
              cases hr
              exact ⟨rfl, HB5.out⟩
        · obtain rfl : z = q := by omega
          have HRW := Lib.hid (HROW.out k hlt)
          have hzz : ¬ ((z : Int) < (z : Int)) := by omega
          clear hb hnil
          go_wp2_with fail
          go_roundw
          case rel => exact ⟨k + 1, by omega, by go_num, by rw [← HRW.out]; exact HNIL.out, HB.out⟩
          case measure => simp [intOf]; omega
    · obtain rfl : k = h := by omega
      exact absurd HNIL.out HNO.out
end Go.Proofs.YtlmlchkolcmhpaaGreatDoor
