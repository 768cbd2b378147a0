/-
  The walk of laws.FnExecuteGrow.
-/
import Derived.Test.YtcjhenfofekofaaGreatDoorJ4
import Derived.Test.YtcjhenfofekofaaGreatDoorYLine6
import Derived.Test.YtcjhenfofekofaaGreatDoorJ5
import Derived.Test.YtcjhenfofekofaaGreatDoorJ2
import Derived.Test.YtcjhenfofekofaaGreatDoorJ3
import Derived.Test.YtcjhenfofekofaaGreatDoorYPatGrow
namespace Go.Proofs.YtcjhenfofekofaaGreatDoor
open Go.RowKit
open Go.TextMath (tvB mvB text word)
open Go.ParseMath

set_option maxRecDepth 100000 in
set_option maxHeartbeats 4000000 in
theorem executeGrow (a0 : Option Addr) (b0 o0 cap0 : Nat) (xs0 : List Int) (w : World) (hr0 : Row .u8 w a0 b0 o0 xs0) (hl0 : xs0.length ≤ cap0 ∧ cap0 ≤ 9223372036854775807) (hw0 : ∀ i, i < xs0.length → (Lit.int .u8 (xs0.getD i 0)).wf = true) (ht : LibM w) :
    Calls Tryz.prog 6 #[.slice a0 xs0.length cap0] w fun e w' => e = .returned (.bool true) ∧ Below w.heap.size w w' := by
  have HP := Lib.hid ht
  have HD := Lib.hid (drawTO a0 b0 o0 cap0 xs0 w hr0 hl0 hw0)
  clear hr0 hw0 ht
  by_cases hbig : 1048576 < xs0.length
  · go_enter Tryz.func6, Tryz.ntmps6
    go_wp2_with fail
    go_ret
    exact ⟨rfl, Below.refl _ _⟩
  · have hs0 : xs0.length ≤ 1048576 := by omega
    clear hbig
    go_enter Tryz.func6, Tryz.ntmps6
    go_wp2_with fail
    refine (HD.out).mono ?_
    rintro e w1 ⟨ao, b, cap, L, rfl, hT, hc1, hc2, hT4, hb1⟩
    have HT := Lib.hid hT
    have HB1 := Lib.hid hb1
    have HP1 := Lib.hid (HP.out.keep hb1 (Nat.le_refl _))
    clear hT hb1
    cases hv : pplB L with
    | false =>
      have HV := Lib.hid hv
      clear hv
      go_wp2_with fail
      refine (tableOfI_f ao b 0 cap L w1 HT.out (by omega) HV.out).mono ?_
      rintro e w2 ⟨rfl, hb2⟩
      have HT2 := Lib.hid (HT.out.keep hb2 (Nat.le_refl _))
      have HB2 := Lib.hid (HB1.out.trans (hb2.mono HB1.out.size))
      clear hb2
      go_wp2_with fail
      refine (tableOfS_f ao b 0 cap L w2 HT2.out (by omega) HV.out).mono ?_
      rintro e w3 ⟨a3, rfl, hb3⟩
      have HB3 := Lib.hid (HB2.out.trans (hb3.mono HB2.out.size))
      clear hb3
      go_wp2_with fail
      refine (sameRows_yes none a3 0 0 0 0 0 0 [] w3 (tab_nil _ _ _ _) (tab_nil _ _ _ _) (by simp)).mono ?_
      rintro e w4 ⟨rfl, q, rfl⟩
      have HB4 := Lib.hid (HB3.out.trans ((below_draws w3 q).mono HB3.out.size))
      go_wp2_with fail
      refine (sameRows_yes none a3 0 0 0 0 0 0 [] _ (tab_nil _ _ _ _) (tab_nil _ _ _ _) (by simp)).mono ?_
      rintro e w5 ⟨rfl, q5, rfl⟩
      have HB5 := Lib.hid (HB4.out.trans ((below_draws (w3.drewN q) q5).mono HB4.out.size))
      go_wp2_with fail
      go_ret
      first | exact ⟨rfl, HB5.out⟩ | (rw [← World.drewN_add]; exact ⟨rfl, HB5.out⟩) | (have := HB5.out; rw [World.drewN_drewN] at this; exact ⟨rfl, this⟩)
    | true =>
      have HV := Lib.hid hv
      have HTVL := Lib.hid (tabO_tv hv)
      have HTI := Lib.hid (fun (W : World) (h : Ppl W ao b 0 L) => tableOfI ao b 0 cap L W h hv)
      have HTS := Lib.hid (fun (W : World) (h : Ppl W ao b 0 L) => tableOfS ao b 0 cap L W h hv)
      have htl := tabO_len L
      obtain ⟨T, hTT⟩ : ∃ T, tabO L = T := ⟨_, rfl⟩
      rw [hTT] at HTI HTS HTVL htl
      have HTE := Lib.hid hTT
      have HTL := Lib.hid htl
      clear hv hTT htl
      go_wp2_with fail
      refine (HTI.out w1 HT.out).mono ?_
      rintro e w2 ⟨v2, g2, rfl, hm2, hb2⟩
      obtain ⟨a2, t2, c2, rfl, k1, k2, htab2⟩ := hm2.tab
      have HA2 := Lib.hid htab2
      have HT2 := Lib.hid (HT.out.keep hb2 (Nat.le_refl _))
      have HB2 := Lib.hid (HB1.out.trans (hb2.mono HB1.out.size))
      have HP2 := Lib.hid (HP1.out.keep hb2 (Nat.le_refl _))
      clear hm2 hb2 htab2
      go_wp2_with fail
      refine (HTS.out w2 HT2.out).mono ?_
      rintro e w3 ⟨v3, g3, rfl, hm3, hb3⟩
      obtain ⟨a3, t3, c3, rfl, k3, k4, htab3⟩ := hm3.tab
      have HA3 := Lib.hid htab3
      have HA23 := Lib.hid (HA2.out.keep hb3 (Nat.le_refl _))
      have HT3 := Lib.hid (HT2.out.keep hb3 (Nat.le_refl _))
      have HB3 := Lib.hid (HB2.out.trans (hb3.mono HB2.out.size))
      have HP3 := Lib.hid (HP2.out.keep hb3 (Nat.le_refl _))
      clear hm3 hb3 htab3
      go_wp2_with fail
      refine (sameRows_yes a2 a3 t2 0 c2 t3 0 c3 T w3 HA23.out HA3.out (by rw [HTL.out]; decide)).mono ?_
      rintro e w4 ⟨rfl, q, rfl⟩
      obtain ⟨w4, hw4⟩ : ∃ w4, w3.drewN q = w4 := ⟨_, rfl⟩
      have hb4 := below_draws w3 q
      rw [hw4] at hb4 ⊢
      have HA4 := Lib.hid (HA23.out.keep hb4 (Nat.le_refl _))
      have HT4 := Lib.hid (HT3.out.keep hb4 (Nat.le_refl _))
      have HB4 := Lib.hid (HB3.out.trans (hb4.mono HB3.out.size))
      have HP4 := Lib.hid (HP3.out.keep hb4 (Nat.le_refl _))
      clear hb4 hw4
      go_wp2_with fail
      refine (maskSmallI a2 t2 0 c2 T 2 w4 HA4.out HTVL.out).mono ?_
      rintro e w5 ⟨v5, g5, rfl, hm5, hb5⟩
      obtain ⟨a5, t5, c5, rfl, k5, k6, htab5⟩ := hm5.tabB
      have HM5 := Lib.hid htab5
      have HMV := Lib.hid (maskS_mv (T := T) 2 HTVL.out)
      have HA5 := Lib.hid (HA4.out.keep hb5 (Nat.le_refl _))
      have HT5 := Lib.hid (HT4.out.keep hb5 (Nat.le_refl _))
      have HB5 := Lib.hid (HB4.out.trans (hb5.mono HB4.out.size))
      have HP5 := Lib.hid (HP4.out.keep hb5 (Nat.le_refl _))
      have hml : (maskS T 2).length = T.length := maskS_len T 2
      obtain ⟨M, hM⟩ : ∃ M, maskS T 2 = M := ⟨_, rfl⟩
      rw [hM] at HM5 HMV hml k5 ⊢
      rw [hml] at k5 ⊢
      obtain rfl := HM5.out.1 (by rw [hml, HTL.out]; decide)
      obtain rfl := HA5.out.1 (by rw [HTL.out]; decide)
      have HGS := Lib.hid (show growS T 2 1 = (match growM T M 1 with | none => sNo | some M' => text T M') by unfold growS; rw [hM]; rfl)
      have HGR := Lib.hid (growI t2 c2 T t5 c5 M 1 w5 HA5.out HM5.out HMV.out (by decide))
      clear hm5 hb5 htab5 hml hM
      cases hg : growM T M 1 with
      | none =>
        rw [hg] at HGS
        have HG := Lib.hid hg
        clear hg
        go_wp2_with fail
        refine (HGR.out).mono ?_
        intro e w6 hgp
        obtain ⟨rfl, hb6⟩ := growP_none HG.out hgp
        have HB6 := Lib.hid (HB5.out.trans (hb6.mono HB5.out.size))
        have HT6 := Lib.hid (HT5.out.keep hb6 (Nat.le_refl _))
        have HP6 := Lib.hid (HP5.out.keep hb6 (Nat.le_refl _))
        clear hgp hb6
        have HDU := Lib.hid (show growS T 2 1 = (⟨#[110, 111, 10]⟩ : ByteArray).data.toList by rw [HGS.out]; rfl)
        have hsD : (⟨#[110, 111, 10]⟩ : ByteArray).size ≤ 1000 := by decide
        obtain ⟨D, hD⟩ : ∃ D : ByteArray, ⟨#[110, 111, 10]⟩ = D := ⟨_, rfl⟩
        rw [hD] at HDU hsD
        have HDD := Lib.hid hD
        try rw [hD]
        clear hD
        have HPE := Lib.hid (Go.RowKit.Below.refl w6.heap.size w6)
        have hps : (⟨(scriptOf (L.map perL)).toArray⟩ : ByteArray).size ≤ 2400 := by
          have h1 := script_len (L := L) (ppl_all HV.out)
          show (scriptOf (L.map perL)).toArray.size ≤ 2400
          rw [List.size_toArray]
          omega
        have HSL : Hid ((⟨(scriptOf (L.map perL)).toArray⟩ : ByteArray) ++ ⟨#[103, 114, 111, 119, 32, 50, 32, 49, 10]⟩ = ⟨(scriptOf (L.map perL) ++ scriptOf [kGrow ++ [32, 50, 32, 49]]).toArray⟩) := by
          show _ = _
          apply ByteArray.ext
          apply Array.toList_inj.1
          simp [scriptOf, kGrow]
        have hpl := personLinesI ao b cap L w6 HT6.out HV.out hc1 hc2 HP6.out.1.1
        have HEX := Lib.hid (fun (s : ByteArray) (hs : s.data.toList = scriptOf (L.map perL) ++ scriptOf [kGrow ++ [32, 50, 32, 49]]) (h5 : s.size ≤ 500) => exec_lines HV.out [kGrow ++ [32, 50, 32, 49]] (by decide) hs h5 (run_grow L))
        have HLC := Lib.hid (fun (s : ByteArray) (hs : s.data.toList = scriptOf (L.map perL) ++ scriptOf [kGrow ++ [32, 50, 32, 49]]) => lines_ok line1 (ls := [kGrow ++ [32, 50, 32, 49]]) (by
          intro l hl
          simp only [List.mem_cons, List.not_mem_nil, or_false] at hl
          obtain rfl := hl
          exact ⟨by decide, by rw [show kindM (cutL 32 (kGrow ++ [32, 50, 32, 49])) = 6 by decide]; exact line6⟩) hs)
        obtain ⟨PL, hPL⟩ : ∃ PL, (⟨(scriptOf (L.map perL)).toArray⟩ : ByteArray) = PL := ⟨_, rfl⟩
        rw [hPL] at hps HSL hpl
        obtain ⟨S, hS⟩ : ∃ S, PL ++ ⟨#[103, 114, 111, 119, 32, 50, 32, 49, 10]⟩ = S := ⟨_, rfl⟩
        have hS2 : S.data.toList = scriptOf (L.map perL) ++ scriptOf [kGrow ++ [32, 50, 32, 49]] := by rw [← hS, HSL.out]
        rw [hS] at HSL
        have HX := Lib.hid (HEX.out S hS2)
        have HLS := Lib.hid (HLC.out S hS2)
        have hss : S.size ≤ 100000 := by
          rw [← hS, ByteArray.size_append]
          show PL.size + 9 ≤ _
          omega
        have hps2 : PL.size + 9 ≤ 9223372036854775807 := by omega
        have HPL := Lib.hid hpl
        clear hPL hS2 HEX HLC hpl
        have HDD2 := HDD
        go_wp2_with fail
        refine (HPL.out).mono ?_
        rintro e w7 ⟨rfl, hb7⟩
        have HB7 := Lib.hid (HB6.out.trans (hb7.mono HB6.out.size))
        have HP7 := Lib.hid (HP6.out.keep hb7 (Nat.le_refl _))
        clear hb7
        by_cases h5 : S.size ≤ 500
        · have hx := HX.out h5
          rw [HTE.out, HDU.out] at hx
          have hEX := executeI S w7 (by omega) HP7.out HLS.out
          obtain ⟨X, hXe⟩ : ∃ X, (⟨(execM S.data.toList).toArray⟩ : ByteArray) = X := ⟨_, rfl⟩
          rw [hXe] at hEX
          obtain ⟨O, hO⟩ : ∃ O, (⟨(oks L.length).toArray⟩ : ByteArray) = O := ⟨_, rfl⟩
          obtain ⟨E, hE⟩ : ∃ E, (⟨(endL L.length).toArray⟩ : ByteArray) = E := ⟨_, rfl⟩
          have HEX := Lib.hid hEX
          have HO := Lib.hid hO
          have HE := Lib.hid hE
          have hall : O ++ D ++ E = X := by
            rw [← hXe, ← hO, ← hE, hx]
            apply ByteArray.ext
            apply Array.toList_inj.1
            simp
          have hsO : O.size ≤ 1000 := by rw [← hO]; exact oks_size hT4
          have hsE : E.size ≤ 1000 := by rw [← hE]; exact endL_size hT4
          obtain ⟨A1, hA1⟩ : ∃ A1, O ++ D = A1 := ⟨_, rfl⟩
          have hs1 : O.size + D.size ≤ 9223372036854775807 := by omega
          have hz1 : A1.size ≤ 2000 := by rw [← hA1, ByteArray.size_append]; omega
          have hs3 : A1.size + E.size ≤ 9223372036854775807 := by omega
          rw [hA1] at hall
          clear hx hEX hXe hO hE
          have hA1' := hA1
          rw [← HDD.out] at hA1' hs1
          clear hA1
          go_wp2_with fail
          refine (HEX.out).mono ?_
          rintro e w8 ⟨rfl, hb8⟩
          have HB8 := Lib.hid (HB7.out.trans (hb8.mono HB7.out.size))
          have HP8 := Lib.hid (HP7.out.keep hb8 (Nat.le_refl _))
          clear hb8
          go_wp2_with fail
          refine (okLinesI ao cap L.length w8 (by omega)).mono ?_
          rw [HO.out]
          rintro e w9 ⟨rfl, hb9⟩
          have HB9 := Lib.hid (HB8.out.trans (hb9.mono HB8.out.size))
          have HP9 := Lib.hid (HP8.out.keep hb9 (Nat.le_refl _))
          clear hb9
          go_wp2_with fail
          refine (endLineI L.length w9 (by omega)).mono ?_
          rw [HE.out]
          rintro e w10 ⟨rfl, hb10⟩
          have HB10 := Lib.hid (HB9.out.trans (hb10.mono HB9.out.size))
          clear hb10
          go_wp2_with fail
          go_ret
          exact ⟨rfl, HB10.out⟩
        · have h6 : 500 < S.size := by omega
          clear h5
          go_wp2_with fail
          go_ret
          exact ⟨rfl, HB7.out⟩
      | some M' =>
        rw [hg] at HGS
        have HG := Lib.hid hg
        clear hg
        go_wp2_with fail
        refine (HGR.out).mono ?_
        intro e w5' hgp
        obtain ⟨ob, gg, rfl, hmt, hmv, hb6⟩ := growP_some HG.out hgp
        obtain ⟨aq, bq, cq, hvq, hq1, hq2, htq⟩ := hmt.tabB
        have hml : M'.length = T.length := (fitM_of hmv).1
        rw [hml] at hvq hq1
        injection hvq with e1 e2 e3
        subst e1 e3
        have HMQ := Lib.hid htq
        have HMQV := Lib.hid hmv
        have HMQL := Lib.hid hml
        have HB5' := Lib.hid (HB5.out.trans (hb6.mono HB5.out.size))
        have HT5' := Lib.hid (HT5.out.keep hb6 (Nat.le_refl _))
        have HP5' := Lib.hid (HP5.out.keep hb6 (Nat.le_refl _))
        have HA5' := Lib.hid (HA5.out.keep hb6 (Nat.le_refl _))
        clear hgp hb6 hmt hmv htq e2
        have hTT := maskTextI (some ⟨t2, 0, none⟩) t2 0 c2 T (some ⟨ob, 0, none⟩) bq 0 T.length M' w5' HA5'.out (by rw [HTL.out]; decide) HMQ.out ⟨by rw [HMQL.out]; exact Nat.le_refl _, by rw [HTL.out]; decide⟩ HP5'.out.1.1
        rw [HMQL.out] at hTT
        have HTT := Lib.hid hTT
        clear hTT hml
        go_wp2_with fail
        refine (HTT.out).mono ?_
        rintro e w6 ⟨rfl, hb6⟩
        have HB6 := Lib.hid (HB5'.out.trans (hb6.mono HB5'.out.size))
        have HT6 := Lib.hid (HT5'.out.keep hb6 (Nat.le_refl _))
        have HP6 := Lib.hid (HP5'.out.keep hb6 (Nat.le_refl _))
        clear hb6
        have HDU := Lib.hid (show growS T 2 1 = (mt T M').data.toList by rw [HGS.out, mt_t HMQV.out])
        have hsD : (mt T M').size ≤ 1000 := by rw [mt_t HMQV.out]; exact text_size (tv_fit HTVL.out) (by rw [HTL.out]; decide)
        obtain ⟨D, hD⟩ : ∃ D, mt T M' = D := ⟨_, rfl⟩
        rw [hD] at HDU hsD
        have HDD := Lib.hid hD
        try rw [hD]
        clear hD
        have HPE := Lib.hid (Go.RowKit.Below.refl w6.heap.size w6)
        have hps : (⟨(scriptOf (L.map perL)).toArray⟩ : ByteArray).size ≤ 2400 := by
          have h1 := script_len (L := L) (ppl_all HV.out)
          show (scriptOf (L.map perL)).toArray.size ≤ 2400
          rw [List.size_toArray]
          omega
        have HSL : Hid ((⟨(scriptOf (L.map perL)).toArray⟩ : ByteArray) ++ ⟨#[103, 114, 111, 119, 32, 50, 32, 49, 10]⟩ = ⟨(scriptOf (L.map perL) ++ scriptOf [kGrow ++ [32, 50, 32, 49]]).toArray⟩) := by
          show _ = _
          apply ByteArray.ext
          apply Array.toList_inj.1
          simp [scriptOf, kGrow]
        have hpl := personLinesI ao b cap L w6 HT6.out HV.out hc1 hc2 HP6.out.1.1
        have HEX := Lib.hid (fun (s : ByteArray) (hs : s.data.toList = scriptOf (L.map perL) ++ scriptOf [kGrow ++ [32, 50, 32, 49]]) (h5 : s.size ≤ 500) => exec_lines HV.out [kGrow ++ [32, 50, 32, 49]] (by decide) hs h5 (run_grow L))
        have HLC := Lib.hid (fun (s : ByteArray) (hs : s.data.toList = scriptOf (L.map perL) ++ scriptOf [kGrow ++ [32, 50, 32, 49]]) => lines_ok line1 (ls := [kGrow ++ [32, 50, 32, 49]]) (by
          intro l hl
          simp only [List.mem_cons, List.not_mem_nil, or_false] at hl
          obtain rfl := hl
          exact ⟨by decide, by rw [show kindM (cutL 32 (kGrow ++ [32, 50, 32, 49])) = 6 by decide]; exact line6⟩) hs)
        obtain ⟨PL, hPL⟩ : ∃ PL, (⟨(scriptOf (L.map perL)).toArray⟩ : ByteArray) = PL := ⟨_, rfl⟩
        rw [hPL] at hps HSL hpl
        obtain ⟨S, hS⟩ : ∃ S, PL ++ ⟨#[103, 114, 111, 119, 32, 50, 32, 49, 10]⟩ = S := ⟨_, rfl⟩
        have hS2 : S.data.toList = scriptOf (L.map perL) ++ scriptOf [kGrow ++ [32, 50, 32, 49]] := by rw [← hS, HSL.out]
        rw [hS] at HSL
        have HX := Lib.hid (HEX.out S hS2)
        have HLS := Lib.hid (HLC.out S hS2)
        have hss : S.size ≤ 100000 := by
          rw [← hS, ByteArray.size_append]
          show PL.size + 9 ≤ _
          omega
        have hps2 : PL.size + 9 ≤ 9223372036854775807 := by omega
        have HPL := Lib.hid hpl
        clear hPL hS2 HEX HLC hpl
        have HDD2 := HDD
        go_wp2_with fail
        refine (HPL.out).mono ?_
        rintro e w7 ⟨rfl, hb7⟩
        have HB7 := Lib.hid (HB6.out.trans (hb7.mono HB6.out.size))
        have HP7 := Lib.hid (HP6.out.keep hb7 (Nat.le_refl _))
        clear hb7
        by_cases h5 : S.size ≤ 500
        · have hx := HX.out h5
          rw [HTE.out, HDU.out] at hx
          have hEX := executeI S w7 (by omega) HP7.out HLS.out
          obtain ⟨X, hXe⟩ : ∃ X, (⟨(execM S.data.toList).toArray⟩ : ByteArray) = X := ⟨_, rfl⟩
          rw [hXe] at hEX
          obtain ⟨O, hO⟩ : ∃ O, (⟨(oks L.length).toArray⟩ : ByteArray) = O := ⟨_, rfl⟩
          obtain ⟨E, hE⟩ : ∃ E, (⟨(endL L.length).toArray⟩ : ByteArray) = E := ⟨_, rfl⟩
          have HEX := Lib.hid hEX
          have HO := Lib.hid hO
          have HE := Lib.hid hE
          have hall : O ++ D ++ E = X := by
            rw [← hXe, ← hO, ← hE, hx]
            apply ByteArray.ext
            apply Array.toList_inj.1
            simp
          have hsO : O.size ≤ 1000 := by rw [← hO]; exact oks_size hT4
          have hsE : E.size ≤ 1000 := by rw [← hE]; exact endL_size hT4
          obtain ⟨A1, hA1⟩ : ∃ A1, O ++ D = A1 := ⟨_, rfl⟩
          have hs1 : O.size + D.size ≤ 9223372036854775807 := by omega
          have hz1 : A1.size ≤ 2000 := by rw [← hA1, ByteArray.size_append]; omega
          have hs3 : A1.size + E.size ≤ 9223372036854775807 := by omega
          rw [hA1] at hall
          clear hx hEX hXe hO hE
          go_wp2_with fail
          refine (HEX.out).mono ?_
          rintro e w8 ⟨rfl, hb8⟩
          have HB8 := Lib.hid (HB7.out.trans (hb8.mono HB7.out.size))
          have HP8 := Lib.hid (HP7.out.keep hb8 (Nat.le_refl _))
          clear hb8
          go_wp2_with fail
          refine (okLinesI ao cap L.length w8 (by omega)).mono ?_
          rw [HO.out]
          rintro e w9 ⟨rfl, hb9⟩
          have HB9 := Lib.hid (HB8.out.trans (hb9.mono HB8.out.size))
          have HP9 := Lib.hid (HP8.out.keep hb9 (Nat.le_refl _))
          clear hb9
          go_wp2_with fail
          refine (endLineI L.length w9 (by omega)).mono ?_
          rw [HE.out]
          rintro e w10 ⟨rfl, hb10⟩
          have HB10 := Lib.hid (HB9.out.trans (hb10.mono HB9.out.size))
          clear hb10
          go_wp2_with fail
          go_ret
          exact ⟨rfl, HB10.out⟩
        · have h6 : 500 < S.size := by omega
          clear h5
          go_wp2_with fail
          go_ret
          exact ⟨rfl, HB7.out⟩
end Go.Proofs.YtcjhenfofekofaaGreatDoor
