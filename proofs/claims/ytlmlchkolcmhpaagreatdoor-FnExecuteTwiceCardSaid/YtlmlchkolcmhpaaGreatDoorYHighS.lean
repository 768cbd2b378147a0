/-
  Contracts: spec.l13Ok, spec.BoundHigh, spec.BoundLow.
-/
import Derived.Test.YtlmlchkolcmhpaaGreatDoorYChangeS
import Derived.Test.YtlmlchkolcmhpaaGreatDoorJ5
namespace Go.Proofs.YtlmlchkolcmhpaaGreatDoor
open Go.RowKit
open Go.TextMath (tvB mvB)
open Go.FlowMath (Legal IsExt sg)

set_option maxHeartbeats 1000000 in
theorem okS (tb ct : Nat) (T : List (List Int)) (mb cm : Nat) (M : List (List Bool)) (i j : Nat) (w : World) (hr : Tab .i64 w (some ⟨tb, 0, none⟩) tb 0 T) (hm : TabB w (some ⟨mb, 0, none⟩) mb 0 M) (hv : mvB T M = true) (hi : i < T.length) (hj : j < (T.getD 0 []).length) :
    Calls Tryz.prog 181 #[.slice (some ⟨tb, 0, none⟩) T.length ct, .slice (some ⟨mb, 0, none⟩) T.length cm, .int .i64 (i : Int), .int .i64 (j : Int)] w fun e w' => e = .returned (.bool true) ∧ Below w.heap.size w w' := by
  have hf := fitM_of hv
  obtain ⟨hT1, hT4, hC1, hC4, hT5⟩ := tv_t.1 (mv_t.1 hv).1
  obtain ⟨b0, o0, c0, h1, -, h2, h3, -⟩ := (Rect.mk (X := T) (h := T.length) (q := (T.getD 0 []).length) rfl (fun k hk => (hT5 k hk).1)).cellI hr (i := 0) (j := 0) (by omega) (by omega)
  have HMV := Lib.hid (show Calls Tryz.prog 130 #[.slice (some ⟨tb, 0, none⟩) T.length ct, .slice (some ⟨mb, 0, none⟩) T.length cm] w fun e w' => e = .returned (.bool true) ∧ ∃ q, w' = w.drewN q from by
    have := maskValidS (some ⟨tb, 0, none⟩) tb 0 ct T (some ⟨mb, 0, none⟩) mb 0 cm M w hr (by omega) hm (by rw [hf.1]; omega)
    rwa [hf.1, hv] at this)
  obtain ⟨q, hq⟩ : ∃ q, (T.getD 0 []).length = q := ⟨_, rfl⟩
  rw [hq] at h1 h2 hj hC1 hC4
  obtain ⟨h, hh⟩ : ∃ h, T.length = h := ⟨_, rfl⟩
  rw [hh] at HMV hi hT1 hT4 ⊢
  have hh0 : (0 : Int) < (h : Int) := by omega
  clear hr hm hv hf hq hh hT5
  go_enter Tryz.func181, Tryz.ntmps181
  go_wp2_with fail
  refine (HMV.out).mono ?_
  rintro e w' ⟨rfl, z, rfl⟩
  have h1' : (w.drewN z).cell? ⟨tb, 0, none⟩ = some (.slice (some ⟨b0, o0, none⟩) q c0) := h1
  go_wp2_with fail
  refine (in_yes _ _ _ _ (by omega) (by omega)).mono ?_
  rintro e w' ⟨rfl, rfl⟩
  go_wp2_with fail
  refine (in_yes _ _ _ _ (by omega) (by omega)).mono ?_
  rintro e w' ⟨rfl, rfl⟩
  go_wp2_with fail
  go_ret
  exact ⟨rfl, below_draws _ _⟩

theorem legal_bd {T X : List (List Int)} {M : List (List Bool)} {i j : Nat} (hv : tvB T = true) (hi : i < T.length) (hj : j < (T.getD 0 []).length) (hL : Legal T.length (T.getD 0 []).length i j (flagM M) (cellT T) (cellT X)) (h0 : 0 ≤ cellT X i j) :
    ∀ k, k < T.length → ∀ l, l < (T.getD 0 []).length → 0 ≤ cellT X k l ∧ cellT X k l ≤ 396 := by
  obtain ⟨hT1, hT4, hC1, hC4, -⟩ := tv_t.1 hv
  obtain ⟨-, hc⟩ := tv_bounds hv
  intro k hk l hl
  by_cases e : k = i ∧ l = j
  · rw [e.1, e.2]
    have h1 := hL.le_row hi hj
    have h2 := Go.FlowMath.rowS_le (t := cellT T) hc hi
    exact ⟨h0, by omega⟩
  · exact ⟨hL.nn k hk l hl e, hL.small hT4 hC4 hc hk hl e⟩

/-- What the loop of a bound keeps. -/
def BndI (T : List (List Int)) (M : List (List Bool)) (h q ob cx i j : Nat) (raise : Bool) (g : Nat → Nat) (w : World) (gk : Nat) (t : Value) (W : World) : Prop :=
  ∃ (X : List (List Int)) (more : Bool), t = .bool more ∧ MtI W w.heap.size (.slice (some ⟨ob, 0, none⟩) h cx) X g ∧ Rect X h q ∧ Legal h q i j (flagM M) (cellT T) (cellT X) ∧ 0 ≤ cellT X i j ∧ (∀ k, k < h → ∀ l, l < q → 0 ≤ cellT X k l ∧ cellT X k l ≤ 396) ∧ Below w.heap.size w W ∧
    (gk : Int) = 1000 - sg raise * cellT X i j - (if more then 0 else 1) ∧ (more = true → flagM M i j = true) ∧ (more = false → (flagM M i j = true → IsExt h q i j (flagM M) (cellT T) raise (cellT X i j)) ∧ (flagM M i j = false → cellT X i j = cellT T i j))

set_option maxRecDepth 100000 in
set_option maxHeartbeats 4000000 in
theorem highS (tb ct : Nat) (T : List (List Int)) (mb cm : Nat) (M : List (List Bool)) (i j : Nat) (w : World) (hr : Tab .i64 w (some ⟨tb, 0, none⟩) tb 0 T) (hm : TabB w (some ⟨mb, 0, none⟩) mb 0 M) (hv : mvB T M = true) (hi : i < T.length) (hj : j < (T.getD 0 []).length) :
    Calls Tryz.prog 174 #[.slice (some ⟨tb, 0, none⟩) T.length ct, .slice (some ⟨mb, 0, none⟩) T.length cm, .int .i64 (i : Int), .int .i64 (j : Int)] w fun e w' => e = .returned (.int .i64 (highM T M i j)) ∧ Below w.heap.size w w' := by
  have hf := fitM_of hv
  have htv := (mv_t.1 hv).1
  obtain ⟨hT1, hT4, hC1, hC4, hT5⟩ := tv_t.1 htv
  have RT : Rect T T.length (T.getD 0 []).length := ⟨rfl, fun k hk => (hT5 k hk).1⟩
  have RM : Rect M T.length (T.getD 0 []).length := ⟨hf.1, hf.2⟩
  obtain ⟨b2, o2, c2, m1, m2, m3, m4, m5⟩ := RM.cellB hm hi hj
  have HOK := Lib.hid (okS tb ct T mb cm M i j w hr hm hv hi hj)
  have HCO := Lib.hid (fun (W : World) (hb : Below w.heap.size w W) => copyIS tb ct T W (hr.keep hb (Nat.le_refl _)) (by omega) (fun i hi => by rw [(hT5 i hi).1]; omega))
  have hx0 := legal_bd htv hi hj (Legal.self (m := flagM M) (i := i) (j := j) (tv_bounds htv).1) ((tv_bounds htv).1 i hi j hj)
  have HX0 := Lib.hid hx0
  have HLB := Lib.hid (fun X (hL : Legal T.length (T.getD 0 []).length i j (flagM M) (cellT T) (cellT X)) (h0 : 0 ≤ cellT X i j) => legal_bd htv hi hj hL h0)
  have HSELF := Lib.hid (Legal.self (m := flagM M) (i := i) (j := j) (tv_bounds htv).1)
  have HVAL := Lib.hid (show ∀ z, (flagM M i j = true → IsExt T.length (T.getD 0 []).length i j (flagM M) (cellT T) true z) → (flagM M i j = false → z = cellT T i j) → 0 ≤ z → highM T M i j = z from fun z h1 h2 h3 => by
    unfold highM
    cases hfl : flagM M i j with
    | true =>
      have h4 : extM T M i j true = z := Go.FlowMath.ext_eq (h1 hfl)
      rw [if_pos rfl]; exact h4
    | false => exact (h2 hfl).symm)
  have HMK := Lib.hid hm
  have HRM := Lib.hid RM
  have HRT := Lib.hid RT
  obtain ⟨q, hq⟩ : ∃ q, (T.getD 0 []).length = q := ⟨_, rfl⟩
  obtain ⟨h, hh⟩ : ∃ h, T.length = h := ⟨_, rfl⟩
  obtain ⟨vv, hvv⟩ : ∃ vv, highM T M i j = vv := ⟨_, rfl⟩
  rw [hq] at m1 m3 hj hC1 hC4 HX0 HLB HSELF HVAL HRM HRT
  rw [hh] at hi hT1 hT4 HOK HCO HX0 HLB HSELF HVAL HRM HRT ⊢
  rw [hvv] at HVAL ⊢
  have hii : (i : Int) < (h : Int) := by omega
  have hjj : (j : Int) < (q : Int) := by omega
  obtain ⟨fl, hfl⟩ : ∃ fl, flagM M i j = fl := ⟨_, rfl⟩
  rw [hfl] at m2
  have HFL := Lib.hid hfl
  have hx0' := HX0.out i hi j hj
  clear hr hm hv hf htv hT5 RT RM hq hh hvv hfl hx0
  go_enter Tryz.func174, Tryz.ntmps174
  go_wp2_with fail
  refine (HOK.out).mono ?_
  rintro e w1 ⟨rfl, hb1⟩
  have HB1 := Lib.hid hb1
  clear hb1
  go_wp2_with fail
  refine (HCO.out w1 HB1.out).mono ?_
  rintro e w2 ⟨v, g, rfl, hmt, hb2⟩
  obtain ⟨ao, ob, cx, rfl, hcx, -, hob, -⟩ := hmt.cells
  rw [HRT.out.len] at hcx hob hmt ⊢
  obtain ⟨rfl, -, -⟩ := hob (by omega)
  have HB2 := Lib.hid (HB1.out.trans (hb2.mono HB1.out.size))
  have HMT := Lib.hid (hmt.mono HB1.out.size)
  have m1' := (HB2.out.cell (p := ⟨mb, i, none⟩) m4).trans m1
  have m2' := (HB2.out.cell (p := ⟨b2, o2 + j, none⟩) m5).trans m2
  obtain ⟨gk, hgk⟩ : ∃ gk : Nat, (gk : Int) = 1000 - sg true * cellT T i j - (if fl then 0 else 1) := ⟨(1000 - sg true * cellT T i j - (if fl then 0 else 1)).toNat, by
    rw [Int.toNat_of_nonneg]
    cases fl <;> simp [sg] <;> omega⟩
  have HI := Lib.hid (show BndI T M h q ob cx i j true g w gk (.bool fl) w2 from ⟨T, fl, rfl, HMT.out, HRT.out, HSELF.out, hx0'.1, HX0.out, HB2.out, hgk, fun e => by rw [HFL.out]; exact e, fun e => ⟨fun e2 => (by rw [HFL.out, e] at e2; cases e2), fun _ => rfl⟩⟩)
  clear hmt hob hb2 hgk
  go_wp2_with fail
  clear m1' m2'
  go_loopg [10] gk (fun gq t W => BndI T M h q ob cx i j true g w gq t W)
  case atStart => exact HI.out
  case round =>
    obtain ⟨X, more, rfl, hmt, hR, hL, h0, hbd, hb, hgq, hm1, hm2⟩ := hrel
    have HMT := Lib.hid hmt
    have HR := Lib.hid hR
    have HL := Lib.hid hL
    have HBD := Lib.hid hbd
    have HB := Lib.hid hb
    have HGQ := Lib.hid hgq
    have hsz := hb.size
    obtain ⟨c3, d1, -, d2, -, -, -, -⟩ := hmt.at_ (i := i) (by rw [hR.len]; exact hi)
    rw [hR.row i hi] at d1 d2
    obtain ⟨d3, -⟩ := hmt.elt (i := i) (j := j) (by rw [hR.len]; exact hi) (get_of (d := 0) (by rw [hR.row i hi]; exact hj))
    have hxe : (X.getD i []).getD j 0 = cellT X i j := rfl
    rw [hxe] at d3
    obtain ⟨x, hx⟩ : ∃ x, cellT X i j = x := ⟨_, rfl⟩
    rw [hx] at d3
    have HXE := Lib.hid hx
    have hxb := hbd i hi j hj
    rw [hx] at hxb h0
    cases more with
    | false =>
      have HV := Lib.hid (HVAL.out x (by rw [← hx]; exact (hm2 rfl).1) (by rw [← hx]; exact (hm2 rfl).2) h0)
      clear hmt hR hL hbd hb hgq hm1 hm2 hxe hx
      go_wp2_with fail
      go_ret
      exact ⟨by rw [HV.out]; rfl, HB.out⟩
    | true =>
      have HM1 := Lib.hid (hm1 rfl)
      have HCH := Lib.hid (changeS w.heap.size ob cx X g mb cm M h q i j true (cellT T) wr hmt (HMK.out.keep hb (Nat.le_refl _)) hR HRM.out hi hj hT4 hC4 hsz hL (hm1 rfl) (fun k hk l hl => by have := hbd k hk l hl; omega))
      clear hmt hR hL hbd hb hgq hm1 hm2 hxe hx
      go_wp2_with fail
      refine (HCH.out).mono ?_
      rintro e w3 (⟨rfl, hE, hb3⟩ | ⟨rfl, X', hmt', hR', hL', hx', hb3⟩)
      · have HI2 := Lib.hid (show BndI T M h q ob cx i j true g w (gk - 1) (.bool false) w3 from ⟨X, false, rfl, HMT.out.below hb3, HR.out, HL.out, by rw [HXE.out]; exact h0, HBD.out, HB.out.trans (hb3.mono hsz), by have := HGQ.out; rw [HXE.out] at *; simp [sg] at *; omega, fun e => (by cases e), fun _ => ⟨fun _ => hE, fun e => (by have := HM1.out; rw [e] at this; cases this)⟩⟩)
        have HLT := Lib.hid (show gk - 1 < gk by have := HGQ.out; rw [HXE.out] at this; simp [sg] at this; omega)
        clear hE hb3
        go_wp2_with fail
        go_roundg (gk - 1)
        case rel => exact HI2.out
        case measure => exact HLT.out
      · have h0' : 0 ≤ cellT X' i j := by rw [hx', HXE.out]; simp [sg]; omega
        have HI2 := Lib.hid (show BndI T M h q ob cx i j true g w (gk - 1) (.bool true) w3 from ⟨X', true, rfl, hmt', hR', hL', h0', HLB.out X' hL' h0', HB.out.trans hb3, by have := HGQ.out; rw [hx']; rw [HXE.out] at *; simp [sg] at *; omega, fun _ => HM1.out, fun e => (by cases e)⟩)
        have HLT := Lib.hid (show gk - 1 < gk by have := HGQ.out; rw [HXE.out] at this; simp [sg] at this; omega)
        clear hmt' hR' hL' hx' hb3 h0'
        go_wp2_with fail
        go_roundg (gk - 1)
        case rel => exact HI2.out
        case measure => exact HLT.out

set_option maxRecDepth 100000 in
set_option maxHeartbeats 4000000 in
theorem lowS (tb ct : Nat) (T : List (List Int)) (mb cm : Nat) (M : List (List Bool)) (i j : Nat) (w : World) (hr : Tab .i64 w (some ⟨tb, 0, none⟩) tb 0 T) (hm : TabB w (some ⟨mb, 0, none⟩) mb 0 M) (hv : mvB T M = true) (hi : i < T.length) (hj : j < (T.getD 0 []).length) :
    Calls Tryz.prog 175 #[.slice (some ⟨tb, 0, none⟩) T.length ct, .slice (some ⟨mb, 0, none⟩) T.length cm, .int .i64 (i : Int), .int .i64 (j : Int)] w fun e w' => e = .returned (.int .i64 (lowM T M i j)) ∧ Below w.heap.size w w' := by
  have hf := fitM_of hv
  have htv := (mv_t.1 hv).1
  obtain ⟨hT1, hT4, hC1, hC4, hT5⟩ := tv_t.1 htv
  have RT : Rect T T.length (T.getD 0 []).length := ⟨rfl, fun k hk => (hT5 k hk).1⟩
  have RM : Rect M T.length (T.getD 0 []).length := ⟨hf.1, hf.2⟩
  obtain ⟨b2, o2, c2, m1, m2, m3, m4, m5⟩ := RM.cellB hm hi hj
  have HOK := Lib.hid (okS tb ct T mb cm M i j w hr hm hv hi hj)
  have HCO := Lib.hid (fun (W : World) (hb : Below w.heap.size w W) => copyIS tb ct T W (hr.keep hb (Nat.le_refl _)) (by omega) (fun i hi => by rw [(hT5 i hi).1]; omega))
  have hx0 := legal_bd htv hi hj (Legal.self (m := flagM M) (i := i) (j := j) (tv_bounds htv).1) ((tv_bounds htv).1 i hi j hj)
  have HX0 := Lib.hid hx0
  have HLB := Lib.hid (fun X (hL : Legal T.length (T.getD 0 []).length i j (flagM M) (cellT T) (cellT X)) (h0 : 0 ≤ cellT X i j) => legal_bd htv hi hj hL h0)
  have HSELF := Lib.hid (Legal.self (m := flagM M) (i := i) (j := j) (tv_bounds htv).1)
  have HVAL := Lib.hid (show ∀ z, (flagM M i j = true → IsExt T.length (T.getD 0 []).length i j (flagM M) (cellT T) false z) → (flagM M i j = false → z = cellT T i j) → 0 ≤ z → lowM T M i j = z from fun z h1 h2 h3 => by
    unfold lowM
    cases hfl : flagM M i j with
    | true =>
      have h4 : extM T M i j false = z := Go.FlowMath.ext_eq (h1 hfl)
      rw [if_pos rfl, h4]; omega
    | false => exact (h2 hfl).symm)
  have HZERO := Lib.hid (show ∀ X, Legal T.length (T.getD 0 []).length i j (flagM M) (cellT T) (cellT X) → cellT X i j = 0 → flagM M i j = true → lowM T M i j = 0 from fun X hL hx hfl => by
    have h1 := (Go.FlowMath.ext_is (m := flagM M) false hi hj (tv_bounds htv).1 (tv_bounds htv).2).2 _ hL
    rw [hx] at h1
    have h2 : (0 : Int) ≤ - extM T M i j false := by simpa [sg, extM] using h1
    unfold lowM
    rw [if_pos hfl]
    omega)
  have HMK := Lib.hid hm
  have HRM := Lib.hid RM
  have HRT := Lib.hid RT
  obtain ⟨q, hq⟩ : ∃ q, (T.getD 0 []).length = q := ⟨_, rfl⟩
  obtain ⟨h, hh⟩ : ∃ h, T.length = h := ⟨_, rfl⟩
  obtain ⟨vv, hvv⟩ : ∃ vv, lowM T M i j = vv := ⟨_, rfl⟩
  rw [hq] at m1 m3 hj hC1 hC4 HX0 HLB HSELF HVAL HRM HRT HZERO
  rw [hh] at hi hT1 hT4 HOK HCO HX0 HLB HSELF HVAL HRM HRT HZERO ⊢
  rw [hvv] at HVAL HZERO ⊢
  have hii : (i : Int) < (h : Int) := by omega
  have hjj : (j : Int) < (q : Int) := by omega
  obtain ⟨fl, hfl⟩ : ∃ fl, flagM M i j = fl := ⟨_, rfl⟩
  rw [hfl] at m2
  have HFL := Lib.hid hfl
  have hx0' := HX0.out i hi j hj
  clear hr hm hv hf htv hT5 RT RM hq hh hvv hfl hx0
  go_enter Tryz.func175, Tryz.ntmps175
  go_wp2_with fail
  refine (HOK.out).mono ?_
  rintro e w1 ⟨rfl, hb1⟩
  have HB1 := Lib.hid hb1
  clear hb1
  go_wp2_with fail
  refine (HCO.out w1 HB1.out).mono ?_
  rintro e w2 ⟨v, g, rfl, hmt, hb2⟩
  obtain ⟨ao, ob, cx, rfl, hcx, -, hob, -⟩ := hmt.cells
  rw [HRT.out.len] at hcx hob hmt ⊢
  obtain ⟨rfl, -, -⟩ := hob (by omega)
  have HB2 := Lib.hid (HB1.out.trans (hb2.mono HB1.out.size))
  have HMT := Lib.hid (hmt.mono HB1.out.size)
  have m1' := (HB2.out.cell (p := ⟨mb, i, none⟩) m4).trans m1
  have m2' := (HB2.out.cell (p := ⟨b2, o2 + j, none⟩) m5).trans m2
  obtain ⟨gk, hgk⟩ : ∃ gk : Nat, (gk : Int) = 1000 - sg false * cellT T i j - (if fl then 0 else 1) := ⟨(1000 - sg false * cellT T i j - (if fl then 0 else 1)).toNat, by
    rw [Int.toNat_of_nonneg]
    cases fl <;> simp [sg] <;> omega⟩
  have HI := Lib.hid (show BndI T M h q ob cx i j false g w gk (.bool fl) w2 from ⟨T, fl, rfl, HMT.out, HRT.out, HSELF.out, hx0'.1, HX0.out, HB2.out, hgk, fun e => by rw [HFL.out]; exact e, fun e => ⟨fun e2 => (by rw [HFL.out, e] at e2; cases e2), fun _ => rfl⟩⟩)
  clear hmt hob hb2 hgk
  go_wp2_with fail
  clear m1' m2'
  go_loopg [10] gk (fun gq t W => BndI T M h q ob cx i j false g w gq t W)
  case atStart => exact HI.out
  case round =>
    obtain ⟨X, more, rfl, hmt, hR, hL, h0, hbd, hb, hgq, hm1, hm2⟩ := hrel
    have HMT := Lib.hid hmt
    have HR := Lib.hid hR
    have HL := Lib.hid hL
    have HBD := Lib.hid hbd
    have HB := Lib.hid hb
    have HGQ := Lib.hid hgq
    have hsz := hb.size
    obtain ⟨c3, d1, -, d2, -, -, -, -⟩ := hmt.at_ (i := i) (by rw [hR.len]; exact hi)
    rw [hR.row i hi] at d1 d2
    obtain ⟨d3, -⟩ := hmt.elt (i := i) (j := j) (by rw [hR.len]; exact hi) (get_of (d := 0) (by rw [hR.row i hi]; exact hj))
    have hxe : (X.getD i []).getD j 0 = cellT X i j := rfl
    rw [hxe] at d3
    obtain ⟨x, hx⟩ : ∃ x, cellT X i j = x := ⟨_, rfl⟩
    rw [hx] at d3
    have HXE := Lib.hid hx
    have hxb := hbd i hi j hj
    rw [hx] at hxb h0
    cases more with
    | false =>
      have HV := Lib.hid (HVAL.out x (by rw [← hx]; exact (hm2 rfl).1) (by rw [← hx]; exact (hm2 rfl).2) h0)
      clear hmt hR hL hbd hb hgq hm1 hm2 hxe hx
      go_wp2_with fail
      go_ret
      exact ⟨by rw [HV.out]; rfl, HB.out⟩
    | true =>
      have HM1 := Lib.hid (hm1 rfl)
      by_cases hx00 : 0 < x
      · have HCH := Lib.hid (changeS w.heap.size ob cx X g mb cm M h q i j false (cellT T) wr hmt (HMK.out.keep hb (Nat.le_refl _)) hR HRM.out hi hj hT4 hC4 hsz hL (hm1 rfl) (fun k hk l hl => by have := hbd k hk l hl; omega))
        clear hmt hR hL hbd hb hgq hm1 hm2 hxe hx
        go_wp2_with fail
        refine (HCH.out).mono ?_
        rintro e w3 (⟨rfl, hE, hb3⟩ | ⟨rfl, X', hmt', hR', hL', hx', hb3⟩)
        · have HI2 := Lib.hid (show BndI T M h q ob cx i j false g w (gk - 1) (.bool false) w3 from ⟨X, false, rfl, HMT.out.below hb3, HR.out, HL.out, by rw [HXE.out]; exact h0, HBD.out, HB.out.trans (hb3.mono hsz), by have := HGQ.out; rw [HXE.out] at *; simp [sg] at *; omega, fun e => (by cases e), fun _ => ⟨fun _ => hE, fun e => (by have := HM1.out; rw [e] at this; cases this)⟩⟩)
          have HLT := Lib.hid (show gk - 1 < gk by have := HGQ.out; rw [HXE.out] at this; simp [sg] at this; omega)
          clear hE hb3
          go_wp2_with fail
          go_roundg (gk - 1)
          case rel => exact HI2.out
          case measure => exact HLT.out
        · have h0' : 0 ≤ cellT X' i j := by rw [hx', HXE.out]; simp [sg]; omega
          have HI2 := Lib.hid (show BndI T M h q ob cx i j false g w (gk - 1) (.bool true) w3 from ⟨X', true, rfl, hmt', hR', hL', h0', HLB.out X' hL' h0', HB.out.trans hb3, by have := HGQ.out; rw [hx']; rw [HXE.out] at *; simp [sg] at *; omega, fun _ => HM1.out, fun e => (by cases e)⟩)
          have HLT := Lib.hid (show gk - 1 < gk by have := HGQ.out; rw [HXE.out] at this; simp [sg] at this; omega)
          clear hmt' hR' hL' hx' hb3 h0'
          go_wp2_with fail
          go_roundg (gk - 1)
          case rel => exact HI2.out
          case measure => exact HLT.out
      · have hxz : x = 0 := by omega
        have HV := Lib.hid (show vv = x from by rw [hxz]; exact HZERO.out X hL (by rw [hx]; exact hxz) (hm1 rfl))
        have hx00' : x ≤ 0 := by omega
        clear hmt hR hL hbd hb hgq hm1 hm2 hxe hx hxz
        go_wp2_with fail
        go_ret
        exact ⟨by rw [HV.out]; rfl, HB.out⟩
end Go.Proofs.YtlmlchkolcmhpaaGreatDoor
