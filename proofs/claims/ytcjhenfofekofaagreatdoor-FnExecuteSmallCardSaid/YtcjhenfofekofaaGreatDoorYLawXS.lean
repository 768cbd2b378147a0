/-
  The walk of laws.FnExecuteSmall.
-/
import Derived.Test.YtcjhenfofekofaaGreatDoorJ4
import Derived.Test.YtcjhenfofekofaaGreatDoorJ5
import Derived.Test.YtcjhenfofekofaaGreatDoorYLine6
import Derived.Test.YtcjhenfofekofaaGreatDoorJ2
import Derived.Test.YtcjhenfofekofaaGreatDoorJ3
namespace Go.Proofs.YtcjhenfofekofaaGreatDoor
open Go.RowKit
open Go.TextMath (tvB mvB text word)
open Go.ParseMath

set_option maxRecDepth 100000 in
set_option maxHeartbeats 4000000 in
theorem executeSmall (a0 : Option Addr) (b0 o0 cap0 : Nat) (xs0 : List Int) (w : World) (hr0 : Row .u8 w a0 b0 o0 xs0) (hl0 : xs0.length ≤ cap0 ∧ cap0 ≤ 9223372036854775807) (hw0 : ∀ i, i < xs0.length → (Lit.int .u8 (xs0.getD i 0)).wf = true) (ht : LibM w) :
    Calls Tryz.prog 7 #[.slice a0 xs0.length cap0] w fun e w' => e = .returned (.bool true) ∧ Below w.heap.size w w' := by
  have HP := Lib.hid ht
  have HD := Lib.hid (drawTO a0 b0 o0 cap0 xs0 w hr0 hl0 hw0)
  clear hr0 hw0 ht
  by_cases hbig : 1048576 < xs0.length
  · go_enter Tryz.func7, Tryz.ntmps7
    go_wp2_with fail
    go_ret
    exact ⟨rfl, Below.refl _ _⟩
  · have hs0 : xs0.length ≤ 1048576 := by omega
    clear hbig
    go_enter Tryz.func7, Tryz.ntmps7
    go_wp2_with fail
    refine (HD.out).mono ?_
    rintro e w1 ⟨ao, b, cap, L, rfl, hT, hc1, hc2, hT4, hb1⟩
    have HT := Lib.hid hT
    have HB1 := Lib.hid hb1
    have HP1 := Lib.hid (HP.out.keep hb1 (Nat.le_refl _))
    clear hT hb1
    cases hv : pplB L with
    | false =>
      have HV := Lib.hid hv
      clear hv
      go_wp2_with fail
      refine (tableOfI_f ao b 0 cap L w1 HT.out (by omega) HV.out).mono ?_
      rintro e w2 ⟨rfl, hb2⟩
      have HT2 := Lib.hid (HT.out.keep hb2 (Nat.le_refl _))
      have HB2 := Lib.hid (HB1.out.trans (hb2.mono HB1.out.size))
      clear hb2
      go_wp2_with fail
      refine (tableOfS_f ao b 0 cap L w2 HT2.out (by omega) HV.out).mono ?_
      rintro e w3 ⟨a3, rfl, hb3⟩
      have HB3 := Lib.hid (HB2.out.trans (hb3.mono HB2.out.size))
      clear hb3
      go_wp2_with fail
      refine (sameRows_yes none a3 0 0 0 0 0 0 [] w3 (tab_nil _ _ _ _) (tab_nil _ _ _ _) (by simp)).mono ?_
      rintro e w4 ⟨rfl, q, rfl⟩
      have HB4 := Lib.hid (HB3.out.trans ((below_draws w3 q).mono HB3.out.size))
      go_wp2_with fail
      refine (sameRows_yes none a3 0 0 0 0 0 0 [] _ (tab_nil _ _ _ _) (tab_nil _ _ _ _) (by simp)).mono ?_
      rintro e w5 ⟨rfl, q5, rfl⟩
      have HB5 := Lib.hid (HB4.out.trans ((below_draws (w3.drewN q) q5).mono HB4.out.size))
      go_wp2_with fail
      go_ret
      first | exact ⟨rfl, HB5.out⟩ | (rw [← World.drewN_add]; exact ⟨rfl, HB5.out⟩) | (have := HB5.out; rw [World.drewN_drewN] at this; exact ⟨rfl, this⟩)
    | true =>
      have HV := Lib.hid hv
      have HTVL := Lib.hid (tabO_tv hv)
      have HTI := Lib.hid (fun (W : World) (h : Ppl W ao b 0 L) => tableOfI ao b 0 cap L W h hv)
      have HTS := Lib.hid (fun (W : World) (h : Ppl W ao b 0 L) => tableOfS ao b 0 cap L W h hv)
      have htl := tabO_len L
      obtain ⟨T, hTT⟩ : ∃ T, tabO L = T := ⟨_, rfl⟩
      rw [hTT] at HTI HTS HTVL htl
      have HTE := Lib.hid hTT
      have HTL := Lib.hid htl
      clear hv hTT htl
      go_wp2_with fail
      refine (HTI.out w1 HT.out).mono ?_
      rintro e w2 ⟨v2, g2, rfl, hm2, hb2⟩
      obtain ⟨a2, t2, c2, rfl, k1, k2, htab2⟩ := hm2.tab
      have HA2 := Lib.hid htab2
      have HT2 := Lib.hid (HT.out.keep hb2 (Nat.le_refl _))
      have HB2 := Lib.hid (HB1.out.trans (hb2.mono HB1.out.size))
      have HP2 := Lib.hid (HP1.out.keep hb2 (Nat.le_refl _))
      clear hm2 hb2 htab2
      go_wp2_with fail
      refine (HTS.out w2 HT2.out).mono ?_
      rintro e w3 ⟨v3, g3, rfl, hm3, hb3⟩
      obtain ⟨a3, t3, c3, rfl, k3, k4, htab3⟩ := hm3.tab
      have HA3 := Lib.hid htab3
      have HA23 := Lib.hid (HA2.out.keep hb3 (Nat.le_refl _))
      have HT3 := Lib.hid (HT2.out.keep hb3 (Nat.le_refl _))
      have HB3 := Lib.hid (HB2.out.trans (hb3.mono HB2.out.size))
      have HP3 := Lib.hid (HP2.out.keep hb3 (Nat.le_refl _))
      clear hm3 hb3 htab3
      go_wp2_with fail
      refine (sameRows_yes a2 a3 t2 0 c2 t3 0 c3 T w3 HA23.out HA3.out (by rw [HTL.out]; decide)).mono ?_
      rintro e w4 ⟨rfl, q, rfl⟩
      obtain ⟨w4, hw4⟩ : ∃ w4, w3.drewN q = w4 := ⟨_, rfl⟩
      have hb4 := below_draws w3 q
      rw [hw4] at hb4 ⊢
      have HA4 := Lib.hid (HA23.out.keep hb4 (Nat.le_refl _))
      have HT4 := Lib.hid (HT3.out.keep hb4 (Nat.le_refl _))
      have HB4 := Lib.hid (HB3.out.trans (hb4.mono HB3.out.size))
      have HP4 := Lib.hid (HP3.out.keep hb4 (Nat.le_refl _))
      clear hb4 hw4
      have HPE := Lib.hid (Go.RowKit.Below.refl w4.heap.size w4)
      have hps : (⟨(scriptOf (L.map perL)).toArray⟩ : ByteArray).size ≤ 2400 := by
        have h1 := script_len (L := L) (ppl_all HV.out)
        show (scriptOf (L.map perL)).toArray.size ≤ 2400
        rw [List.size_toArray]
        omega
      have HSL : Hid ((⟨(scriptOf (L.map perL)).toArray⟩ : ByteArray) ++ ⟨#[115, 109, 97, 108, 108, 32, 49, 10, 103, 114, 111, 119, 32, 49, 32, 53, 10]⟩ = ⟨(scriptOf (L.map perL) ++ scriptOf [kSmall ++ [32, 49], kGrow ++ [32, 49, 32, 53]]).toArray⟩) := by
        show _ = _
        apply ByteArray.ext
        apply Array.toList_inj.1
        simp [scriptOf, kSmall, kGrow]
      have hpl := personLinesI ao b cap L w4 HT4.out HV.out hc1 hc2 HP4.out.1.1
      have HEX := Lib.hid (fun (s : ByteArray) (hs : s.data.toList = scriptOf (L.map perL) ++ scriptOf [kSmall ++ [32, 49], kGrow ++ [32, 49, 32, 53]]) (h5 : s.size ≤ 500) => exec_lines HV.out [kSmall ++ [32, 49], kGrow ++ [32, 49, 32, 53]] (by decide) hs h5 (run_small HV.out))
      have HLC := Lib.hid (fun (s : ByteArray) (hs : s.data.toList = scriptOf (L.map perL) ++ scriptOf [kSmall ++ [32, 49], kGrow ++ [32, 49, 32, 53]]) => lines_ok line1 (ls := [kSmall ++ [32, 49], kGrow ++ [32, 49, 32, 53]]) (by
        intro l hl
        simp only [List.mem_cons, List.not_mem_nil, or_false] at hl
        rcases hl with rfl | rfl
        · exact ⟨by decide, by rw [show kindM (cutL 32 (kSmall ++ [32, 49])) = 5 by decide]; exact line5⟩
        · exact ⟨by decide, by rw [show kindM (cutL 32 (kGrow ++ [32, 49, 32, 53])) = 6 by decide]; exact line6⟩) hs)
      obtain ⟨PL, hPL⟩ : ∃ PL, (⟨(scriptOf (L.map perL)).toArray⟩ : ByteArray) = PL := ⟨_, rfl⟩
      rw [hPL] at hps HSL hpl
      obtain ⟨S, hS⟩ : ∃ S, PL ++ ⟨#[115, 109, 97, 108, 108, 32, 49, 10, 103, 114, 111, 119, 32, 49, 32, 53, 10]⟩ = S := ⟨_, rfl⟩
      have hS2 : S.data.toList = scriptOf (L.map perL) ++ scriptOf [kSmall ++ [32, 49], kGrow ++ [32, 49, 32, 53]] := by rw [← hS, HSL.out]
      rw [hS] at HSL
      have HX := Lib.hid (HEX.out S hS2)
      have HLS := Lib.hid (HLC.out S hS2)
      have hss : S.size ≤ 100000 := by
        rw [← hS, ByteArray.size_append]
        show PL.size + 17 ≤ _
        omega
      have hps2 : PL.size + 17 ≤ 9223372036854775807 := by omega
      have HPL := Lib.hid hpl
      clear hPL hS2 HEX HLC hpl
      go_wp2_with fail
      refine (HPL.out).mono ?_
      rintro e w5 ⟨rfl, hb5⟩
      have HB5 := Lib.hid (HB4.out.trans (hb5.mono HB4.out.size))
      have HP5 := Lib.hid (HP4.out.keep hb5 (Nat.le_refl _))
      have HA5 := Lib.hid (HA4.out.keep hb5 (Nat.le_refl _))
      clear hb5
      by_cases h5 : S.size ≤ 500
      · have hx := HX.out h5
        rw [HTE.out] at hx
        have hEX := executeI S w5 (by omega) HP5.out HLS.out
        obtain ⟨X, hXe⟩ : ∃ X, (⟨(execM S.data.toList).toArray⟩ : ByteArray) = X := ⟨_, rfl⟩
        rw [hXe] at hEX
        obtain ⟨O, hO⟩ : ∃ O, (⟨(oks L.length).toArray⟩ : ByteArray) = O := ⟨_, rfl⟩
        obtain ⟨E, hE⟩ : ∃ E, (⟨(endL L.length).toArray⟩ : ByteArray) = E := ⟨_, rfl⟩
        have hTx := tt_t HTVL.out
        obtain ⟨TT, hTTe⟩ : ∃ TT, tt T = TT := ⟨_, rfl⟩
        have HEX := Lib.hid hEX
        have HO := Lib.hid hO
        have HE := Lib.hid hE
        have HTX := Lib.hid hTTe
        have hall : O ++ TT ++ TT ++ E = X := by
          rw [← hXe, ← hO, ← hE, ← hTTe, hTx, hx]
          apply ByteArray.ext
          apply Array.toList_inj.1
          simp
        have hsO : O.size ≤ 1000 := by rw [← hO]; exact oks_size hT4
        have hsE : E.size ≤ 1000 := by rw [← hE]; exact endL_size hT4
        have hsT : TT.size ≤ 1000 := by rw [← hTTe, hTx]; exact text_size (tv_fit HTVL.out) (by rw [HTL.out]; decide)
        obtain ⟨A1, hA1⟩ : ∃ A1, O ++ TT = A1 := ⟨_, rfl⟩
        obtain ⟨A2, hA2⟩ : ∃ A2, A1 ++ TT = A2 := ⟨_, rfl⟩
        have hs1 : O.size + TT.size ≤ 9223372036854775807 := by omega
        have hz1 : A1.size ≤ 2000 := by rw [← hA1, ByteArray.size_append]; omega
        have hs2 : A1.size + TT.size ≤ 9223372036854775807 := by omega
        have hz2 : A2.size ≤ 3000 := by rw [← hA2, ByteArray.size_append]; omega
        have hs3 : A2.size + E.size ≤ 9223372036854775807 := by omega
        rw [hA1, hA2] at hall
        clear hx hEX hXe hO hE hTx hTTe
        go_wp2_with fail
        refine (HEX.out).mono ?_
        rintro e w6 ⟨rfl, hb6⟩
        have HB6 := Lib.hid (HB5.out.trans (hb6.mono HB5.out.size))
        have HP6 := Lib.hid (HP5.out.keep hb6 (Nat.le_refl _))
        have HA6 := Lib.hid (HA5.out.keep hb6 (Nat.le_refl _))
        clear hb6
        go_wp2_with fail
        refine (okLinesI ao cap L.length w6 (by omega)).mono ?_
        rw [HO.out]
        rintro e w7 ⟨rfl, hb7⟩
        have HB7 := Lib.hid (HB6.out.trans (hb7.mono HB6.out.size))
        have HP7 := Lib.hid (HP6.out.keep hb7 (Nat.le_refl _))
        have HA7 := Lib.hid (HA6.out.keep hb7 (Nat.le_refl _))
        clear hb7
        go_wp2_with fail
        refine (tableTextI a2 t2 0 c2 T w7 HA7.out (by rw [HTL.out]; decide) HP7.out.1.1).mono ?_
        rw [HTX.out]
        rintro e w8 ⟨rfl, hb8⟩
        have HB8 := Lib.hid (HB7.out.trans (hb8.mono HB7.out.size))
        have HP8 := Lib.hid (HP7.out.keep hb8 (Nat.le_refl _))
        have HA8 := Lib.hid (HA7.out.keep hb8 (Nat.le_refl _))
        clear hb8
        go_wp2_with fail
        refine (tableTextI a2 t2 0 c2 T w8 HA8.out (by rw [HTL.out]; decide) HP8.out.1.1).mono ?_
        rw [HTX.out]
        rintro e w9 ⟨rfl, hb9⟩
        have HB9 := Lib.hid (HB8.out.trans (hb9.mono HB8.out.size))
        have HP9 := Lib.hid (HP8.out.keep hb9 (Nat.le_refl _))
        have HA9 := Lib.hid (HA8.out.keep hb9 (Nat.le_refl _))
        clear hb9
        go_wp2_with fail
        refine (endLineI L.length w9 (by omega)).mono ?_
        rw [HE.out]
        rintro e w10 ⟨rfl, hb10⟩
        have HB10 := Lib.hid (HB9.out.trans (hb10.mono HB9.out.size))
        clear hb10
        go_wp2_with fail
        go_ret
        exact ⟨rfl, HB10.out⟩
      · have h6 : 500 < S.size := by omega
        have hT0 : 0 < T.length := by rw [HTL.out]; decide
        clear h5
        go_wp2_with fail
        go_ret
        exact ⟨rfl, HB5.out⟩
end Go.Proofs.YtcjhenfofekofaaGreatDoor
