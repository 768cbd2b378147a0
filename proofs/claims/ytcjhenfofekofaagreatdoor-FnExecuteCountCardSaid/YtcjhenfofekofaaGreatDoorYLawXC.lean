/-
  The walk of laws.FnExecuteCount.
-/
import Derived.Test.YtcjhenfofekofaaGreatDoorJ4
import Derived.Test.YtcjhenfofekofaaGreatDoorYDrawV
import Derived.Test.YtcjhenfofekofaaGreatDoorYLine3
import Derived.Test.YtcjhenfofekofaaGreatDoorYSel
import Derived.Test.YtcjhenfofekofaaGreatDoorJ3
namespace Go.Proofs.YtcjhenfofekofaaGreatDoor
open Go.RowKit
open Go.TextMath (tvB mvB text word)
open Go.ParseMath

set_option maxRecDepth 100000 in
set_option maxHeartbeats 4000000 in
theorem executeCount (a0 : Option Addr) (b0 o0 cap0 : Nat) (xs0 : List Int) (w : World) (hr0 : Row .u8 w a0 b0 o0 xs0) (hl0 : xs0.length ≤ cap0 ∧ cap0 ≤ 9223372036854775807) (hw0 : ∀ i, i < xs0.length → (Lit.int .u8 (xs0.getD i 0)).wf = true) (ht : LibM w) :
    Calls Tryz.prog 3 #[.slice a0 xs0.length cap0] w fun e w' => e = .returned (.bool true) ∧ Below w.heap.size w w' := by
  have HP := Lib.hid ht
  have HD := Lib.hid (drawPV a0 b0 o0 cap0 xs0 w hr0 hl0 hw0)
  clear hr0 hw0 ht
  by_cases hbig : 1048576 < xs0.length
  · go_enter Tryz.func3, Tryz.ntmps3
    go_wp2_with fail
    go_ret
    exact ⟨rfl, Below.refl _ _⟩
  · have hs0 : xs0.length ≤ 1048576 := by omega
    clear hbig
    go_enter Tryz.func3, Tryz.ntmps3
    go_wp2_with fail
    refine (HD.out).mono ?_
    rintro e w1 ⟨ao, b, cap, L, rfl, hT, hc1, hc2, hT4, hb1⟩
    have HT1 := Lib.hid hT
    have HB1 := Lib.hid hb1
    have HP1 := Lib.hid (HP.out.keep hb1 (Nat.le_refl _))
    have hl41 : L.length ≤ 41 := by omega
    have HT4 := Lib.hid hT4
    clear hT hb1 hT4
    cases hv : pplB L with
    | false =>
      have HV := Lib.hid hv
      clear hv
      go_wp2_with fail
      refine (peopleI ao b 0 cap L w1 HT1.out (by omega)).mono ?_
      rintro e w2 ⟨rfl, hb2⟩
      rw [HV.out]
      have HB2 := Lib.hid (HB1.out.trans (hb2.mono HB1.out.size))
      have HT2 := Lib.hid (HT1.out.keep hb2 (Nat.le_refl _))
      clear hb2
      go_wp2_with fail
      refine (peopleS ao b 0 cap L w2 HT2.out (by omega)).mono ?_
      rintro e w3 ⟨rfl, hb3⟩
      rw [HV.out]
      have HB3 := Lib.hid (HB2.out.trans (hb3.mono HB2.out.size))
      clear hb3
      go_wp2_with fail
      go_ret
      exact ⟨rfl, HB3.out⟩
    | true =>
      have HV := Lib.hid hv
      have hl12 : L.length ≤ 12 := by have h1 := HT4.out; have h2 := (ppl_t.1 hv).1; omega
      clear hv
      go_wp2_with fail
      refine (peopleI ao b 0 cap L w1 HT1.out (by omega)).mono ?_
      rintro e w2 ⟨rfl, hb2⟩
      rw [HV.out]
      have HB2 := Lib.hid (HB1.out.trans (hb2.mono HB1.out.size))
      have HP2 := Lib.hid (HP1.out.keep hb2 (Nat.le_refl _))
      have HT2 := Lib.hid (HT1.out.keep hb2 (Nat.le_refl _))
      clear hb2
      go_wp2_with fail
      refine (peopleS ao b 0 cap L w2 HT2.out (by omega)).mono ?_
      rintro e w3 ⟨rfl, hb3⟩
      rw [HV.out]
      have HB3 := Lib.hid (HB2.out.trans (hb3.mono HB2.out.size))
      have HP3 := Lib.hid (HP2.out.keep hb3 (Nat.le_refl _))
      have HT3 := Lib.hid (HT2.out.keep hb3 (Nat.le_refl _))
      clear hb3
      have HPE := Lib.hid (Go.RowKit.Below.refl w3.heap.size w3)
      have hps : (⟨(scriptOf (L.map perL)).toArray⟩ : ByteArray).size ≤ 2400 := by
        have h1 := script_len (L := L) (ppl_all HV.out)
        show (scriptOf (L.map perL)).toArray.size ≤ 2400
        rw [List.size_toArray]
        omega
      have HSL : Hid ((⟨(scriptOf (L.map perL)).toArray⟩ : ByteArray) ++ ⟨#[99, 111, 117, 110, 116, 32, 45, 32, 45, 32, 45, 10]⟩ = ⟨(scriptOf (L.map perL) ++ scriptOf [kCount ++ [32, 45, 32, 45, 32, 45]]).toArray⟩) := by
        show _ = _
        apply ByteArray.ext
        apply Array.toList_inj.1
        simp [scriptOf, kTable, kSmall, kGrow, kRound, kGroups, kCount, kDrop]
      have hpl := personLinesI ao b cap L w3 HT3.out HV.out hc1 hc2 HP3.out.1.1
      have HEX := Lib.hid (fun (s : ByteArray) (hs : s.data.toList = scriptOf (L.map perL) ++ scriptOf [kCount ++ [32, 45, 32, 45, 32, 45]]) (h5 : s.size ≤ 500) => exec_lines HV.out [kCount ++ [32, 45, 32, 45, 32, 45]] (by decide) hs h5 (run_count L HV.out))
      have HLC := Lib.hid (fun (s : ByteArray) (hs : s.data.toList = scriptOf (L.map perL) ++ scriptOf [kCount ++ [32, 45, 32, 45, 32, 45]]) => lines_ok line1 (ls := [kCount ++ [32, 45, 32, 45, 32, 45]]) (by
        intro l hl
        simp only [List.mem_cons, List.not_mem_nil, or_false] at hl
        obtain rfl := hl
        exact ⟨by decide, by rw [show kindM (cutL 32 (kCount ++ [32, 45, 32, 45, 32, 45])) = 3 by decide]; exact line3⟩) hs)
      obtain ⟨PL, hPL⟩ : ∃ PL, (⟨(scriptOf (L.map perL)).toArray⟩ : ByteArray) = PL := ⟨_, rfl⟩
      rw [hPL] at hps HSL hpl
      obtain ⟨S, hS⟩ : ∃ S, PL ++ ⟨#[99, 111, 117, 110, 116, 32, 45, 32, 45, 32, 45, 10]⟩ = S := ⟨_, rfl⟩
      have hS2 : S.data.toList = scriptOf (L.map perL) ++ scriptOf [kCount ++ [32, 45, 32, 45, 32, 45]] := by rw [← hS, HSL.out]
      rw [hS] at HSL
      have HX := Lib.hid (HEX.out S hS2)
      have HLS := Lib.hid (HLC.out S hS2)
      have hss : S.size ≤ 100000 := by
        rw [← hS, ByteArray.size_append]
        show PL.size + 12 ≤ _
        omega
      have hps2 : PL.size + 12 ≤ 9223372036854775807 := by omega
      have HPL := Lib.hid hpl
      clear hPL hS2 HEX HLC hpl
      go_wp2_with fail
      refine (HPL.out).mono ?_
      rintro e w4 ⟨rfl, hb4⟩
      have HB4 := Lib.hid (HB3.out.trans (hb4.mono HB3.out.size))
      have HP4 := Lib.hid (HP3.out.keep hb4 (Nat.le_refl _))
      have HT4 := Lib.hid (HT3.out.keep hb4 (Nat.le_refl _))
      clear hb4
      by_cases h5 : S.size ≤ 500
      · have hx := HX.out h5
        have hEX := executeI S w4 (by omega) HP4.out HLS.out
        obtain ⟨X, hXe⟩ : ∃ X, (⟨(execM S.data.toList).toArray⟩ : ByteArray) = X := ⟨_, rfl⟩
        rw [hXe] at hEX
        obtain ⟨O, hO⟩ : ∃ O, (⟨(oks L.length).toArray⟩ : ByteArray) = O := ⟨_, rfl⟩
        obtain ⟨E, hE⟩ : ∃ E, (⟨(endL L.length).toArray⟩ : ByteArray) = E := ⟨_, rfl⟩
        have hpy := pays_le L (ppl_all HV.out)
        have HPY := Lib.hid (show payP L (-1) (-1) (-1) = pays L by
          have ha : askB (-1) (-1) (-1) = true := by decide
          have hf : L.filter (isP (-1) (-1) (-1)) = L := List.filter_eq_self.2 fun p _ => by simp [isP]
          unfold payP
          rw [ha, HV.out, hf]
          rfl)
        obtain ⟨y, hy⟩ : ∃ y, pays L = y := ⟨_, rfl⟩
        rw [hy] at hx hpy HPY
        obtain ⟨D, hD⟩ : ∃ D, wd (L.length : Int) = D := ⟨_, rfl⟩
        obtain ⟨Y, hY⟩ : ∃ Y, wd y = Y := ⟨_, rfl⟩
        have hall : O ++ D ++ ⟨#[32]⟩ ++ Y ++ ⟨#[10]⟩ ++ E = X := by
          rw [← hXe, ← hO, ← hE, ← hD, ← hY, hx]
          apply ByteArray.ext
          apply Array.toList_inj.1
          simp [wd, Go.TextMath.text, Go.TextMath.line, Go.TextMath.rowW, Go.TextMath.cellW, Lib.join, Lib.joinTail]
        have hsO : O.size ≤ 1000 := by rw [← hO]; exact oks_size hl12
        have hsE : E.size ≤ 1000 := by rw [← hE]; exact endL_size hl12
        have hsD : D.size ≤ 7 := by rw [← hD]; exact Go.TextMath.word_short (n := (L.length : Int)) (by omega) (by omega)
        have hsY : Y.size ≤ 7 := by rw [← hY]; exact Go.TextMath.word_short (n := y) (by omega) (by omega)
        obtain ⟨A1, hA1⟩ : ∃ A1, O ++ D = A1 := ⟨_, rfl⟩
        obtain ⟨A2, hA2⟩ : ∃ A2, A1 ++ ⟨#[32]⟩ = A2 := ⟨_, rfl⟩
        obtain ⟨A3, hA3⟩ : ∃ A3, A2 ++ Y = A3 := ⟨_, rfl⟩
        obtain ⟨A4, hA4⟩ : ∃ A4, A3 ++ ⟨#[10]⟩ = A4 := ⟨_, rfl⟩
        have hs1 : O.size + D.size ≤ 9223372036854775807 := by omega
        have hz1 : A1.size ≤ 2000 := by rw [← hA1, ByteArray.size_append]; omega
        have hs2 : A1.size + 1 ≤ 9223372036854775807 := by omega
        have hz2 : A2.size ≤ 2001 := by rw [← hA2, ByteArray.size_append]; show A1.size + 1 ≤ 2001; omega
        have hs3 : A2.size + Y.size ≤ 9223372036854775807 := by omega
        have hz3 : A3.size ≤ 2010 := by rw [← hA3, ByteArray.size_append]; omega
        have hs4 : A3.size + 1 ≤ 9223372036854775807 := by omega
        have hz4 : A4.size ≤ 2011 := by rw [← hA4, ByteArray.size_append]; show A3.size + 1 ≤ 2011; omega
        have hs5 : A4.size + E.size ≤ 9223372036854775807 := by omega
        rw [hA1, hA2, hA3, hA4] at hall
        have HEX := Lib.hid hEX
        have HO := Lib.hid hO
        have HE := Lib.hid hE
        have HD1 := Lib.hid hD
        have HY := Lib.hid hY
        clear hx hEX hXe hO hE hD hY hy
        go_wp2_with fail
        refine (HEX.out).mono ?_
        rintro e w5 ⟨rfl, hb5⟩
        have HB5 := Lib.hid (HB4.out.trans (hb5.mono HB4.out.size))
        have HT5 := Lib.hid (HT4.out.keep hb5 (Nat.le_refl _))
        clear hb5
        go_wp2_with fail
        refine (okLinesI ao cap L.length w5 (by omega)).mono ?_
        rw [HO.out]
        rintro e w6 ⟨rfl, hb6⟩
        have HB6 := Lib.hid (HB5.out.trans (hb6.mono HB5.out.size))
        have HT6 := Lib.hid (HT5.out.keep hb6 (Nat.le_refl _))
        clear hb6
        go_wp2_with fail
        refine (digI (L.length + 1) (L.length : Int) w6 (by omega) (by omega) (by omega)).mono ?_
        rw [HD1.out]
        rintro e w7 ⟨rfl, hb7⟩
        have HB7 := Lib.hid (HB6.out.trans (hb7.mono HB6.out.size))
        have HT7 := Lib.hid (HT6.out.keep hb7 (Nat.le_refl _))
        clear hb7
        go_wp2_with fail
        refine (payI ao b 0 cap L (-1) (-1) (-1) w7 HT7.out HV.out).mono ?_
        rw [HPY.out]
        rintro e w8 ⟨rfl, hb8⟩
        have HB8 := Lib.hid (HB7.out.trans (hb8.mono HB7.out.size))
        clear hb8
        go_wp2_with fail
        refine (digI (y.toNat + 1) y w8 hpy.1 (by omega) (by omega)).mono ?_
        rw [HY.out]
        rintro e w9 ⟨rfl, hb9⟩
        have HB9 := Lib.hid (HB8.out.trans (hb9.mono HB8.out.size))
        clear hb9
        go_wp2_with fail
        refine (endLineI L.length w9 (by omega)).mono ?_
        rw [HE.out]
        rintro e w10 ⟨rfl, hb10⟩
        have HB10 := Lib.hid (HB9.out.trans (hb10.mono HB9.out.size))
        clear hb10
        go_wp2_with fail
        go_ret
        exact ⟨rfl, HB10.out⟩
      · have h6 : 500 < S.size := by omega
        have h20 : (20 : Int) < (L.length : Int) := by
          have h1 := script_17 (L := L) (ppl_all HV.out)
          have h2 := congrArg ByteArray.size HSL.out
          have h3 : (⟨(scriptOf (L.map perL) ++ scriptOf [kCount ++ [32, 45, 32, 45, 32, 45]]).toArray⟩ : ByteArray).size = (scriptOf (L.map perL)).length + 12 := by
            show (List.toArray _).size = _
            rw [List.size_toArray, List.length_append]
            rfl
          omega
        have H20 := Lib.hid h20
        clear h20 h5
        go_wp2_with fail
        go_ret
        exact ⟨ret_bool (decide_eq_true H20.out), HB4.out⟩
end Go.Proofs.YtcjhenfofekofaaGreatDoor
