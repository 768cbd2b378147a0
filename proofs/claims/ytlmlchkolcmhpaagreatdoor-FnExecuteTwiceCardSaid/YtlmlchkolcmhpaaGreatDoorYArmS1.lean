/-
  Contracts: spec.l51Or, l51Small, l51Grow, l51Round.
-/
import Derived.Test.YtlmlchkolcmhpaaGreatDoorYGrowS
import Derived.Test.YtlmlchkolcmhpaaGreatDoorJ6
import Derived.Test.YtlmlchkolcmhpaaGreatDoorJ4
import Derived.Test.YtlmlchkolcmhpaaGreatDoorJ3
namespace Go.Proofs.YtlmlchkolcmhpaaGreatDoor
open Go.RowKit
open Go.TextMath (tvB mvB text word line rowW)

theorem map_getD {r : List Int} {f : Int → Int} {z : Nat} (h : z < r.length) : (r.map f).getD z 0 = f (r.getD z 0) := by
  simp [List.getD_eq_getElem?_getD, List.getElem?_map, List.getElem?_eq_getElem h]
theorem str_full {l : List UInt8} (h : l ≠ []) : ((bs l).toList == []) = false := by
  rw [beq_eq_false_iff_ne, Lib.toList_data]
  exact h
set_option maxHeartbeats 1000000 in
theorem orS (l : List UInt8) (h : l ≠ []) (w : World) : Calls Tryz.prog 61 #[.string (bs l)] w fun e w' => e = .returned (.string (bs l)) ∧ w = w' := by
  have h2 := str_full h
  obtain ⟨s, hs⟩ : ∃ s, bs l = s := ⟨_, rfl⟩
  rw [hs] at h2 ⊢
  clear h hs
  go_enter Tryz.func61, Tryz.ntmps61
  go_wp2_with fail
  go_ret
  exact ⟨rfl, rfl⟩

set_option maxHeartbeats 2000000 in
theorem smallArmS (ao : Option Addr) (b cap : Nat) (L : List Per) (k : Int) (w : World) (hr : Ppl w ao b 0 L) (hv : pplB L = true) :
    Calls Tryz.prog 63 #[.slice ao L.length cap, .int .i64 k] w fun e w' => e = .returned (.string (bs (text (tabO L) (maskS (tabO L) k)))) ∧ Below w.heap.size w w' := by
  have HTO := Lib.hid (tableOfS ao b 0 cap L w hr hv)
  have HTV := Lib.hid (tabO_tv hv)
  obtain ⟨T, hT⟩ : ∃ T, tabO L = T := ⟨_, rfl⟩
  rw [hT] at HTO HTV ⊢
  have HMV := Lib.hid (maskS_mv k HTV.out)
  have h4 := (tv_t.1 HTV.out).2.1
  clear hr hv hT
  go_enter Tryz.func63, Tryz.ntmps63
  go_wp2_with fail
  refine (HTO.out).mono ?_
  rintro e w1 ⟨v1, g1, rfl, hm1, hb1⟩
  obtain ⟨a1, b1, c1, rfl, k1, k2, htab⟩ := hm1.tab
  have HB1 := Lib.hid hb1
  have HTAB := Lib.hid htab
  clear hm1 hb1 htab
  go_wp2_with fail
  refine (maskSmallS a1 b1 0 c1 T k w1 HTAB.out HTV.out).mono ?_
  rintro e w2 ⟨v2, g2, rfl, hm2, hb2⟩
  obtain ⟨a2, b2, c2, rfl, k3, k4, hmsk⟩ := hm2.tabB
  have HB2 := Lib.hid (HB1.out.trans (hb2.mono HB1.out.size))
  have HT2 := Lib.hid (HTAB.out.keep hb2 (Nat.le_refl _))
  have HM2 := Lib.hid hmsk
  have HK := Lib.hid (And.intro k3 k4)
  clear hm2 hb2 hmsk k3 k4
  go_wp2_with fail
  refine (maskTextS a1 b1 0 c1 T a2 b2 0 c2 (maskS T k) w2 HT2.out (by omega) HM2.out HK.out).mono ?_
  rintro e w3 ⟨rfl, hb3⟩
  have HB3 := Lib.hid (HB2.out.trans (hb3.mono HB2.out.size))
  have HMT := Lib.hid (mt_t HMV.out)
  obtain ⟨X, hX⟩ : ∃ X, mt T (maskS T k) = X := ⟨_, rfl⟩
  rw [hX] at HMT ⊢
  clear hb3 hX
  go_wp2_with fail
  go_ret
  exact ⟨by rw [← show X = bs _ from HMT.out]; rfl, HB3.out⟩

set_option maxHeartbeats 4000000 in
theorem growArmS (ao : Option Addr) (b cap : Nat) (L : List Per) (k n : Int) (w : World) (hr : Ppl w ao b 0 L) (hv : pplB L = true) :
    Calls Tryz.prog 64 #[.slice ao L.length cap, .int .i64 k, .int .i64 n] w fun e w' => e = .returned (.string (bs (growS (tabO L) k n))) ∧ Below w.heap.size w w' := by
  have HTO := Lib.hid (tableOfS ao b 0 cap L w hr hv)
  have HTV := Lib.hid (tabO_tv hv)
  obtain ⟨T, hT⟩ : ∃ T, tabO L = T := ⟨_, rfl⟩
  rw [hT] at HTO HTV ⊢
  have HMV := Lib.hid (maskS_mv k HTV.out)
  have h4 := (tv_t.1 HTV.out).2.1
  have h1 := (tv_t.1 HTV.out).1
  have hml := maskS_len T k
  clear hr hv hT
  go_enter Tryz.func64, Tryz.ntmps64
  go_wp2_with fail
  refine (HTO.out).mono ?_
  rintro e w1 ⟨v1, g1, rfl, hm1, hb1⟩
  obtain ⟨a1, b1, c1, rfl, k1, k2, htab⟩ := hm1.tab
  have HB1 := Lib.hid hb1
  have HTAB := Lib.hid htab
  obtain rfl := htab.1 (by omega)
  clear hm1 hb1 htab
  go_wp2_with fail
  refine (maskSmallS _ b1 0 c1 T k w1 HTAB.out HTV.out).mono ?_
  rintro e w2 ⟨v2, g2, rfl, hm2, hb2⟩
  obtain ⟨a2, b2, c2, rfl, k3, k4, hmsk⟩ := hm2.tabB
  obtain rfl := hmsk.1 (by omega)
  rw [hml] at k3 ⊢
  have HB2 := Lib.hid (HB1.out.trans (hb2.mono HB1.out.size))
  have HT2 := Lib.hid (HTAB.out.keep hb2 (Nat.le_refl _))
  have HGR := Lib.hid (growS_any b1 c1 T b2 c2 (maskS T k) n w2 HT2.out hmsk HMV.out)
  clear hm2 hb2 hmsk k3 k4 hml
  go_wp2_with fail
  refine (HGR.out).mono ?_
  intro e w3 hgq
  cases hgm : growM T (maskS T k) n with
  | none =>
    obtain ⟨⟨a3, rfl⟩, hb3⟩ := growQ_none hgm hgq
    have HB3 := Lib.hid (HB2.out.trans (hb3.mono HB2.out.size))
    have HE := Lib.hid (show growS T k n = sNo by unfold growS; rw [hgm])
    clear hgm hgq hb3
    go_wp2_with fail
    go_ret
    exact ⟨by rw [HE.out]; rfl, HB3.out⟩
  | some M' =>
    obtain ⟨ob, c3, g3, rfl, hm3, hmv3, hb3⟩ := growQ_some hgm hgq
    have hf3 := fitM_of hmv3
    obtain ⟨a5, b5, c5, hv5, k5, k6, htb⟩ := hm3.tabB
    injection hv5 with e1 e2 e3
    subst e1
    subst e3
    have HB3 := Lib.hid (HB2.out.trans (hb3.mono HB2.out.size))
    have HE := Lib.hid (show bs (growS T k n) = mt T M' by rw [mt_t hmv3]; unfold growS; rw [hgm]; rfl)
    have HMT := Lib.hid (show Calls Tryz.prog 99 #[.slice (some ⟨b1, 0, none⟩) T.length c1, .slice (some ⟨ob, 0, none⟩) T.length c3] w3 fun e w' => e = .returned (.string (mt T M')) ∧ Below w3.heap.size w3 w' from by
      have := maskTextS (some ⟨b1, 0, none⟩) b1 0 c1 T (some ⟨ob, 0, none⟩) b5 0 c3 M' w3 (HT2.out.keep hb3 (Nat.le_refl _)) (by omega) htb ⟨k5, k6⟩
      rwa [hf3.1] at this)
    obtain ⟨X, hX⟩ : ∃ X, mt T M' = X := ⟨_, rfl⟩
    rw [hX] at HMT HE
    clear hgm hgq hb3 hm3 hmv3 hf3 e2 k5 k6 htb hX
    go_wp2_with fail
    refine (HMT.out).mono ?_
    rintro e w4 ⟨rfl, hb4⟩
    have HB4 := Lib.hid (HB3.out.trans (hb4.mono HB3.out.size))
    clear hb4
    go_wp2_with fail
    go_ret
    exact ⟨by rw [HE.out]; rfl, HB4.out⟩

set_option maxRecDepth 100000 in
set_option maxHeartbeats 4000000 in
theorem roundArmS_f (ao : Option Addr) (b cap : Nat) (L : List Per) (x : Int) (w : World) (hr : Ppl w ao b 0 L) (hv : pplB L = true) (hx : baseB x = false) :
    Calls Tryz.prog 65 #[.slice ao L.length cap, .int .i64 x] w fun e w' => e = .returned (.string (bs sNo)) ∧ Below w.heap.size w w' := by
  have HTO := Lib.hid (tableOfS ao b 0 cap L w hr hv)
  have HTV := Lib.hid (tabO_tv hv)
  obtain ⟨T, hT⟩ : ∃ T, tabO L = T := ⟨_, rfl⟩
  rw [hT] at HTO HTV
  obtain ⟨h1, h4, q1, q4, hT5⟩ := tv_t.1 HTV.out
  have RT : Rect T T.length (T.getD 0 []).length := ⟨rfl, fun k hk => (hT5 k hk).1⟩
  have HRT := Lib.hid RT
  have HNF := Lib.hid (fun z W => nearS_f z x W hx)
  obtain ⟨q, hq⟩ : ∃ q, (T.getD 0 []).length = q := ⟨_, rfl⟩
  rw [hq] at HRT q1 q4
  clear hr hv hT hT5 RT hx hq
  have hh0 : (0 : Int) < (T.length : Int) := by omega
  go_enter Tryz.func65, Tryz.ntmps65
  go_wp2_with fail
  refine (HTO.out).mono ?_
  rintro e w1 ⟨v1, g1, rfl, hm1, hb1⟩
  obtain ⟨a1, b1, c1, rfl, k1, k2, htab⟩ := hm1.tab
  have HB1 := Lib.hid hb1
  have HTAB := Lib.hid htab
  obtain rfl := htab.1 (by omega)
  obtain ⟨rb, ro, rc, r1, r2, r3, r4, r5⟩ := HRT.out.cellI htab (i := 0) (j := 0) (by omega) (by omega)
  obtain ⟨z, hz⟩ : ∃ z, cellT T 0 0 = z := ⟨_, rfl⟩
  rw [hz] at r2
  clear hm1 hb1 htab hz
  go_wp2_with fail
  go_loopw [7, 8] (fun o t W => t = .int .i64 0 ∧ o = .string ⟨#[]⟩ ∧ W = w1) (fun _ _ _ => 0)
  case atStart => exact ⟨rfl, rfl, rfl⟩
  case round =>
    obtain ⟨rfl, rfl, rfl⟩ := hrel
    go_wp2_with fail
    have hal := (Below.refl wr.heap.size wr).alloc (Nat.le_refl _) (.cells #[] 3)
    have r1' := (hal.cell (p := ⟨b1, 0, none⟩) r4).trans r1
    have r2' := (hal.cell (p := ⟨rb, ro, none⟩) r5).trans r2
    have HAL := Lib.hid (HB1.out.alloc HB1.out.size (.cells #[] 3))
    obtain ⟨W2, hW2⟩ : ∃ W2, wr.alloc (.cells #[] 3) = W2 := ⟨_, rfl⟩
    rw [hW2] at r1' r2' HAL ⊢
    clear hal hW2 r1 r2
    go_loopw [9, 10] (fun o t W => t = .int .i64 0 ∧ W = W2) (fun _ _ _ => 0)
    case atStart => exact ⟨rfl, rfl⟩
    case round =>
      obtain ⟨rfl, rfl⟩ := hrel
      have hq0 : (0 : Int) < (q : Int) := by omega
      go_wp2_with fail
      refine (HNF.out z _).mono ?_
      rintro e w5 ⟨rfl, rfl⟩
      go_wp2_with fail
      go_ret
      exact ⟨rfl, HAL.out⟩

set_option maxRecDepth 100000 in
set_option maxHeartbeats 4000000 in
theorem roundArmS_t (ao : Option Addr) (b cap : Nat) (L : List Per) (x : Int) (w : World) (hr : Ppl w ao b 0 L) (hv : pplB L = true) (hx : baseB x = true) :
    Calls Tryz.prog 65 #[.slice ao L.length cap, .int .i64 x] w fun e w' => e = .returned (.string (bs (text (nearT (tabO L) x) []))) ∧ Below w.heap.size w w' := by
  have HTO := Lib.hid (tableOfS ao b 0 cap L w hr hv)
  have HTV := Lib.hid (tabO_tv hv)
  obtain ⟨T, hT⟩ : ∃ T, tabO L = T := ⟨_, rfl⟩
  rw [hT] at HTO HTV ⊢
  obtain ⟨h1, h4, q1, q4, hT5⟩ := tv_t.1 HTV.out
  have RT : Rect T T.length (T.getD 0 []).length := ⟨rfl, fun k hk => (hT5 k hk).1⟩
  have HRT := Lib.hid RT
  have HNT := Lib.hid (fun z W (h0 : 0 ≤ z) (h1 : z ≤ 10000) => nearS z x W h0 h1 hx)
  have HBD := Lib.hid (tv_bounds HTV.out)
  have HFN := Lib.hid (fit_near HTV.out hx)
  have HXB := Lib.hid (show 2 ≤ x ∧ x ≤ 20 from of_decide_eq_true hx)
  obtain ⟨q, hq⟩ : ∃ q, (T.getD 0 []).length = q := ⟨_, rfl⟩
  rw [hq] at HRT q1 q4 HBD
  clear hr hv hT hT5 RT hx hq
  have hh0 : (0 : Int) < (T.length : Int) := by omega
  go_enter Tryz.func65, Tryz.ntmps65
  go_wp2_with fail
  refine (HTO.out).mono ?_
  rintro e w1 ⟨v1, g1, rfl, hm1, hb1⟩
  obtain ⟨a1, b1, c1, rfl, k1, k2, htab⟩ := hm1.tab
  have HB1 := Lib.hid hb1
  have HTAB := Lib.hid htab
  obtain rfl := htab.1 (by omega)
  clear hm1 hb1 htab
  go_wp2_with fail
  go_loopw [7, 8] (fun o t W => ∃ k : Nat, k ≤ T.length ∧ t = .int .i64 k ∧ o = .string (bs (text ((nearT T x).take k) [])) ∧ Below w1.heap.size w1 W) (fun _ t _ => T.length - (intOf t).toNat)
  case atStart => exact ⟨0, Nat.zero_le _, rfl, rfl, Below.refl _ _⟩
  case round =>
    obtain ⟨k, hk, rfl, rfl, hb⟩ := hrel
    have HB := Lib.hid hb
    have hnl := nearT_len T x
    have hts := text_short (M := []) HFN.out k (by rw [hnl]; exact hk)
    have hbz : (bs (text ((nearT T x).take k) [])).size ≤ 164 := by rw [bs_size]; omega
    have HTX := Lib.hid (fun (h : k < T.length) => text_take (T := nearT T x) (k := k) [] (by rw [hnl]; exact h))
    have HTA := Lib.hid (show (nearT T x).take T.length = nearT T x by rw [← hnl, List.take_length])
    obtain ⟨S, hS⟩ : ∃ S, bs (text ((nearT T x).take k) []) = S := ⟨_, rfl⟩
    rw [hS] at hbz ⊢
    have HSE := Lib.hid hS
    clear hb hnl hts hS
    by_cases hlt : k < T.length
    · have hkh : (k : Int) < (T.length : Int) := by omega
      have HNR := Lib.hid (nearT_row (T := T) (b := x) (i := k) hlt)
      have HRL := Lib.hid (HRT.out.row k hlt)
      have HFK := Lib.hid (HFN.out.2 k (by rw [nearT_len]; exact hlt))
      obtain ⟨R, hR⟩ : ∃ R, (T.getD k []).map (fun y => near y x) = R := ⟨_, rfl⟩
      have HRE := Lib.hid (show R.length = q by rw [← hR, List.length_map]; exact HRL.out)
      have HRAT := Lib.hid (fun z (hz : z < q) => (show R.getD z 0 = near (cellT T k z) x by
        rw [← hR, map_getD (by rw [HRL.out]; exact hz)]
        rfl))
      rw [hR] at HNR
      rw [HNR.out] at HFK
      clear hR
      go_wp2_with fail
      have hal := HB.out.alloc HB.out.size (.cells #[] 3)
      have HST := Lib.hid (show Own (wr.alloc (.cells #[] 3)) w1.heap.size (.slice (some ⟨wr.heap.size, 0, none⟩) 0 0) (R.take 0) ∧ Below w1.heap.size w1 (wr.alloc (.cells #[] 3)) from ⟨by rw [List.take_zero]; exact Own.lit [] HB.out.size (by simp), hal⟩)
      clear hal
      go_loopw [9, 10] (fun v t W => ∃ z : Nat, z ≤ q ∧ t = .int .i64 z ∧ Own W w1.heap.size v (R.take z) ∧ Below w1.heap.size w1 W) (fun _ t _ => q - (intOf t).toNat)
      case atStart => exact ⟨0, Nat.zero_le _, rfl, HST.out.1, HST.out.2⟩
      case round =>
        clear HST HB
        obtain ⟨z, hz, rfl, ho, hb⟩ := hrel
        have HB := Lib.hid hb
        have HO := Lib.hid ho
        obtain ⟨rb, ro, rc, r1, -, r3, r4, -⟩ := HRT.out.cellI (HTAB.out.keep hb (Nat.le_refl _)) (i := k) (j := 0) hlt (by omega)
        by_cases hzq : z < q
        · have hzz : (z : Int) < (q : Int) := by omega
          obtain ⟨rb2, ro2, rc2, s1, s2, -, -, -⟩ := HRT.out.cellI (HTAB.out.keep hb (Nat.le_refl _)) (i := k) (j := z) hlt hzq
          have hsame := r1.symm.trans s1
          injection hsame with hsame
          injection hsame with e1 _ e3
          injection e1 with e1
          injection e1 with e1 e2 _
          subst e1
          subst e2
          have hc0 := HBD.out.1 k hlt z hzq
          have hc1 := HBD.out.2 k hlt z hzq
          have HRZ := Lib.hid (HRAT.out z hzq)
          have HTK := Lib.hid (take_one (d := 0) (show z < R.length by rw [HRE.out]; exact hzq))
          obtain ⟨y, hy⟩ : ∃ y, cellT T k z = y := ⟨_, rfl⟩
          rw [hy] at s2 hc0 hc1 HRZ
          rw [HRZ.out] at HTK
          have hn0 := near_le (x := y) (b := x) hc0 HXB.out.1
          have HNE := Lib.hid (HNT.out y wr hc0 (by omega))
          obtain ⟨N, hN⟩ : ∃ N, near y x = N := ⟨_, rfl⟩
          rw [hN] at hn0 HNE HTK
          obtain ⟨hn1, -⟩ := hn0
          obtain ⟨zs, hzs⟩ : ∃ zs, R.take z = zs := ⟨_, rfl⟩
          have hj9 : Hid (zs.length ≤ 1000000000) := Lib.hid (by rw [← hzs, List.length_take]; omega)
          rw [hzs] at HO HTK
          have hsw := hb.size
          clear hb ho s1 hy hN hzs e3
          go_wp2_with fail
          refine (HNE.out).mono ?_
          rintro e w5 ⟨rfl, rfl⟩
          go_wp2_with (at_builtin; refine wpList_app eltI rfl (.tmp 44) (.tmp 46) rfl w1.heap.size _ _ _ rfl HO.out [.int .i64 N] rfl (by intro u hu; simp at hu; subst hu; rfl) rfl rfl hj9.out hsw ?_)
          intro v' w2 ho2 hb2 _
          have HO2 := Lib.hid (show Own w2 w1.heap.size v' (R.take (z + 1)) by
            rw [HTK.out]
            unfold Own
            rw [List.length_append, List.length_singleton, List.map_append, List.map_singleton]
            exact ho2)
          have HB2 := Lib.hid (HB.out.trans hb2)
          clear ho2 hb2
          go_wp2_with fail
          go_roundw
          case rel => exact ⟨z + 1, by omega, by go_num, HO2.out, HB2.out⟩
          case measure => simp [intOf]; omega
        · obtain rfl : z = q := by omega
          rw [List.take_of_length_le (by rw [HRE.out]; exact Nat.le_refl _)] at ho
          obtain ⟨ar, br, cr, hvr, -, -, hrow, -, -⟩ := ho.row
          subst hvr
          have HRW := Lib.hid hrow
          have hls := lnW_size HFK.out.2.2 HFK.out.2.1
          have hzz : ¬ ((z : Int) < (z : Int)) := by omega
          have hrl : R.length ≤ 1000 := by have := HFK.out.2.1; omega
          clear hb ho hrow HO
          go_wp2_with fail
          refine (numbersW ar br 0 cr R _ HRW.out hrl HFK.out.2.2).mono ?_
          rintro e w5 ⟨rfl, hb5⟩
          have HB5 := Lib.hid (HB.out.trans (hb5.mono HB.out.size))
          clear hb5
          go_wp2_with fail
          go_roundw
          case rel =>
            refine ⟨k + 1, by omega, by go_num, ?_, HB5.out⟩
            rw [HTX.out hlt, HNR.out, ← HSE.out]
            unfold lnW
            rw [bs_add]
            show _ = Value.string (bs (_ ++ line (rowW R [])))
            rw [Go.TextMath.rowW_none]
          case measure => simp [intOf]; omega
    · obtain rfl : k = T.length := by omega
      have hkh : ¬ ((T.length : Int) < (T.length : Int)) := by omega
      rw [HTA.out] at HSE
      go_wp2_with fail
      go_ret
      exact ⟨by rw [HSE.out]; rfl, HB1.out.trans (HB.out.mono HB1.out.size)⟩
end Go.Proofs.YtlmlchkolcmhpaaGreatDoor
