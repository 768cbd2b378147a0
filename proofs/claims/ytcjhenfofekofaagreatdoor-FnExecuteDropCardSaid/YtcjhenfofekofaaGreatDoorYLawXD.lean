/-
  The walk of laws.FnExecuteDrop.
-/
import Derived.Test.YtcjhenfofekofaaGreatDoorJ4
import Derived.Test.YtcjhenfofekofaaGreatDoorYDropS
import Derived.Test.YtcjhenfofekofaaGreatDoorYSameQ
import Derived.Test.YtcjhenfofekofaaGreatDoorYLine2
import Derived.Test.YtcjhenfofekofaaGreatDoorJ2
import Derived.Test.YtcjhenfofekofaaGreatDoorJ3
namespace Go.Proofs.YtcjhenfofekofaaGreatDoor
open Go.RowKit
open Go.TextMath (tvB mvB text word)
open Go.ParseMath

/-- The line "drop k". -/
theorem cut_drop (k : Nat) : cutL 32 (kDrop ++ 32 :: word (k : Int)) = [kDrop, word (k : Int)] := by
  rw [cutL_at (by decide), cutL_none (no_word 32 (by decide) _)]
theorem kind_drop (k : Nat) : kindM (cutL 32 (kDrop ++ 32 :: word (k : Int))) = 2 := by
  rw [cut_drop]
  unfold kindM
  rw [if_neg (by simp [kDrop, kPerson]), if_pos ⟨rfl, rfl⟩]
theorem no_drop (k : Nat) : (10 : UInt8) ∉ kDrop ++ 32 :: word (k : Int) := by
  rw [List.mem_append, List.mem_cons, not_or, not_or]
  exact ⟨by decide, by decide, no_word 10 (by decide) _⟩

set_option maxRecDepth 100000 in
set_option maxHeartbeats 4000000 in
theorem executeDrop (a0 : Option Addr) (b0 o0 cap0 : Nat) (xs0 : List Int) (w : World) (hr0 : Row .u8 w a0 b0 o0 xs0) (hl0 : xs0.length ≤ cap0 ∧ cap0 ≤ 9223372036854775807) (hw0 : ∀ i, i < xs0.length → (Lit.int .u8 (xs0.getD i 0)).wf = true) (ht : LibM w) :
    Calls Tryz.prog 4 #[.slice a0 xs0.length cap0] w fun e w' => e = .returned (.bool true) ∧ Below w.heap.size w w' := by
  have HP := Lib.hid ht
  have HD := Lib.hid (drawPK a0 b0 o0 cap0 xs0 w hr0 hl0 hw0)
  clear hr0 hw0 ht
  by_cases hbig : 1048576 < xs0.length
  · go_enter Tryz.func4, Tryz.ntmps4
    go_wp2_with fail
    go_ret
    exact ⟨rfl, Below.refl _ _⟩
  · have hs0 : xs0.length ≤ 1048576 := by omega
    clear hbig
    go_enter Tryz.func4, Tryz.ntmps4
    go_wp2_with fail
    refine (HD.out).mono ?_
    rintro e w1 ⟨ao, b, cap, L, k, rfl, hT, hc1, hc2, hT4, hnn, hb1⟩
    have HT1 := Lib.hid hT
    have HB1 := Lib.hid hb1
    have HP1 := Lib.hid (HP.out.keep hb1 (Nat.le_refl _))
    have HNN := Lib.hid hnn
    clear hT hb1 hnn
    by_cases hv : pplB L = true ∧ 0 ≤ k ∧ k < L.length
    · obtain ⟨hv, hk0, hkl⟩ := hv
      obtain ⟨k, rfl⟩ : ∃ n : Nat, k = n := ⟨k.toNat, by omega⟩
      have hkn : k < L.length := by omega
      have HV := Lib.hid hv
      have HKN := Lib.hid hkn
      have HVW := Lib.hid (without_ok hv hkn)
      have hml : (without L k).length ≤ 12 := by have := without_len hkn; omega
      obtain ⟨M, hM⟩ : ∃ M, without L k = M := ⟨_, rfl⟩
      have HWI := Lib.hid (fun W h => withoutI ao b cap L k W h hv hkn hc1 HNN.out)
      have HWS := Lib.hid (fun W h => withoutS ao b cap L k W h hv hkn hc1 hc2)
      have HRUN := Lib.hid (run_drop L hkn (by omega))
      rw [hM] at HWI HWS HVW hml HRUN
      have HTVL := Lib.hid (tabO_tv HVW.out)
      obtain ⟨T, hTT⟩ : ∃ T, tabO M = T := ⟨_, rfl⟩
      have HTI := Lib.hid (fun (ao : Option Addr) (b cap : Nat) (W : World) (h : Ppl W ao b 0 M) => tableOfI ao b 0 cap M W h HVW.out)
      have HTL := Lib.hid (tabO_len M)
      rw [hTT] at HTVL HTI HTL HRUN
      have hk40 : k ≤ 12 := by omega
      clear hv hk0 hkl hkn hM hTT
      go_wp2_with fail
      refine (HWI.out w1 HT1.out).mono ?_
      rintro e w2 ⟨v2, rfl, ho2, hb2⟩
      obtain ⟨a2, b2, c2, rfl, d1, d2, -, hp2⟩ := ho2.ppl
      have HM2 := Lib.hid hp2
      have HB2 := Lib.hid (HB1.out.trans (hb2.mono HB1.out.size))
      have HP2 := Lib.hid (HP1.out.keep hb2 (Nat.le_refl _))
      have HT2 := Lib.hid (HT1.out.keep hb2 (Nat.le_refl _))
      clear hb2 ho2 hp2
      go_wp2_with fail
      refine (HWS.out w2 HT2.out).mono ?_
      rintro e w3 ⟨v3, rfl, ho3, hb3⟩
      obtain ⟨a3, b3, c3, rfl, -, -, -, hp3⟩ := ho3.ppl
      have HN3 := Lib.hid hp3
      have HM3 := Lib.hid (HM2.out.keep hb3 (Nat.le_refl _))
      have HB3 := Lib.hid (HB2.out.trans (hb3.mono HB2.out.size))
      have HP3 := Lib.hid (HP2.out.keep hb3 (Nat.le_refl _))
      have HT3 := Lib.hid (HT2.out.keep hb3 (Nat.le_refl _))
      clear hb3 ho3 hp3
      go_wp2_with fail
      refine (samePpl_yes a2 a3 b2 0 c2 b3 0 c3 M w3 HM3.out HN3.out (by omega)).mono ?_
      rintro e w4 ⟨rfl, q, rfl⟩
      obtain ⟨w4, hw4⟩ : ∃ w4, w3.drewN q = w4 := ⟨_, rfl⟩
      have hb4 := below_draws w3 q
      rw [hw4] at hb4 ⊢
      have HM4 := Lib.hid (HM3.out.keep hb4 (Nat.le_refl _))
      have HT4 := Lib.hid (HT3.out.keep hb4 (Nat.le_refl _))
      have HB4 := Lib.hid (HB3.out.trans (hb4.mono HB3.out.size))
      have HP4 := Lib.hid (HP3.out.keep hb4 (Nat.le_refl _))
      clear hb4 hw4
      go_wp2_with fail
      refine (HTI.out a2 b2 c2 w4 HM4.out).mono ?_
      rintro e w5 ⟨v5, g5, rfl, hm5, hb5⟩
      obtain ⟨a5, t5, c5, rfl, k1, k2, htab5⟩ := hm5.tab
      have HA5 := Lib.hid htab5
      have HT5 := Lib.hid (HT4.out.keep hb5 (Nat.le_refl _))
      have HB5 := Lib.hid (HB4.out.trans (hb5.mono HB4.out.size))
      have HP5 := Lib.hid (HP4.out.keep hb5 (Nat.le_refl _))
      clear hm5 hb5 htab5
      have hps : (⟨(scriptOf (L.map perL)).toArray⟩ : ByteArray).size ≤ 2400 := by
        have h1 := script_len (L := L) (ppl_all HV.out)
        show (scriptOf (L.map perL)).toArray.size ≤ 2400
        rw [List.size_toArray]
        omega
      have hpl := personLinesI ao b cap L w5 HT5.out HV.out hc1 hc2 HP5.out.1.1
      obtain ⟨D, hD⟩ : ∃ D, wd (k : Int) = D := ⟨_, rfl⟩
      have hsD : D.size ≤ 7 := by rw [← hD]; exact Go.TextMath.word_short (n := (k : Int)) (by omega) (by omega)
      have HSL : Hid ((⟨(scriptOf (L.map perL)).toArray⟩ : ByteArray) ++ ⟨#[100, 114, 111, 112, 32]⟩ ++ D ++ ⟨#[10, 116, 97, 98, 108, 101, 10]⟩ = ⟨(scriptOf (L.map perL) ++ scriptOf [kDrop ++ 32 :: word (k : Int), kTable]).toArray⟩) := by
        show _ = _
        rw [← hD]
        apply ByteArray.ext
        apply Array.toList_inj.1
        simp [scriptOf, kTable, kDrop, wd]
      have HEX := Lib.hid (fun (s : ByteArray) (hs : s.data.toList = scriptOf (L.map perL) ++ scriptOf [kDrop ++ 32 :: word (k : Int), kTable]) (h5 : s.size ≤ 500) => exec_lines HV.out [kDrop ++ 32 :: word (k : Int), kTable] (by
        intro l hl
        simp only [List.mem_cons, List.not_mem_nil, or_false] at hl
        rcases hl with rfl | rfl
        · exact no_drop k
        · decide) hs h5 HRUN.out)
      have HLC := Lib.hid (fun (s : ByteArray) (hs : s.data.toList = scriptOf (L.map perL) ++ scriptOf [kDrop ++ 32 :: word (k : Int), kTable]) => lines_ok line1 (ls := [kDrop ++ 32 :: word (k : Int), kTable]) (by
        intro l hl
        simp only [List.mem_cons, List.not_mem_nil, or_false] at hl
        rcases hl with rfl | rfl
        · exact ⟨no_drop k, by rw [kind_drop]; exact line2⟩
        · exact ⟨by decide, by rw [show kindM (cutL 32 kTable) = 4 by decide]; exact line4⟩) hs)
      obtain ⟨PL, hPL⟩ : ∃ PL, (⟨(scriptOf (L.map perL)).toArray⟩ : ByteArray) = PL := ⟨_, rfl⟩
      rw [hPL] at hps HSL hpl
      obtain ⟨P1, hP1⟩ : ∃ P1, PL ++ ⟨#[100, 114, 111, 112, 32]⟩ = P1 := ⟨_, rfl⟩
      obtain ⟨P2, hP2⟩ : ∃ P2, P1 ++ D = P2 := ⟨_, rfl⟩
      obtain ⟨S, hS⟩ : ∃ S, P2 ++ ⟨#[10, 116, 97, 98, 108, 101, 10]⟩ = S := ⟨_, rfl⟩
      rw [hP1, hP2, hS] at HSL
      have hS2 : S.data.toList = scriptOf (L.map perL) ++ scriptOf [kDrop ++ 32 :: word (k : Int), kTable] := by rw [HSL.out]
      have HX := Lib.hid (HEX.out S hS2)
      have HLS := Lib.hid (HLC.out S hS2)
      have hps1 : PL.size + 5 ≤ 9223372036854775807 := by omega
      have hz1 : P1.size ≤ 2405 := by rw [← hP1, ByteArray.size_append]; show PL.size + 5 ≤ _; omega
      have hps2 : P1.size + D.size ≤ 9223372036854775807 := by omega
      have hz2 : P2.size ≤ 2412 := by rw [← hP2, ByteArray.size_append]; omega
      have hps3 : P2.size + 7 ≤ 9223372036854775807 := by omega
      have hss : S.size ≤ 100000 := by rw [← hS, ByteArray.size_append]; show P2.size + 7 ≤ _; omega
      have HPL := Lib.hid hpl
      have HD1 := Lib.hid hD
      clear hPL hS2 HEX HLC hpl hD
      go_wp2_with fail
      refine (HPL.out).mono ?_
      rintro e w6 ⟨rfl, hb6⟩
      have HB6 := Lib.hid (HB5.out.trans (hb6.mono HB5.out.size))
      have HP6 := Lib.hid (HP5.out.keep hb6 (Nat.le_refl _))
      have HA6 := Lib.hid (HA5.out.keep hb6 (Nat.le_refl _))
      clear hb6
      go_wp2_with fail
      refine (digI (k + 1) (k : Int) w6 (by omega) (by omega) (by omega)).mono ?_
      rw [HD1.out]
      rintro e w7 ⟨rfl, hb7⟩
      have HB7 := Lib.hid (HB6.out.trans (hb7.mono HB6.out.size))
      have HP7 := Lib.hid (HP6.out.keep hb7 (Nat.le_refl _))
      have HA7 := Lib.hid (HA6.out.keep hb7 (Nat.le_refl _))
      clear hb7
      by_cases h5 : S.size ≤ 500
      · have hx := HX.out h5
        have hEX := executeI S w7 (by omega) HP7.out HLS.out
        obtain ⟨X, hXe⟩ : ∃ X, (⟨(execM S.data.toList).toArray⟩ : ByteArray) = X := ⟨_, rfl⟩
        rw [hXe] at hEX
        obtain ⟨O, hO⟩ : ∃ O, (⟨(oks L.length).toArray⟩ : ByteArray) = O := ⟨_, rfl⟩
        obtain ⟨E, hE⟩ : ∃ E, (⟨(endL M.length).toArray⟩ : ByteArray) = E := ⟨_, rfl⟩
        have hTx := tt_t HTVL.out
        obtain ⟨TT, hTTe⟩ : ∃ TT, tt T = TT := ⟨_, rfl⟩
        have hall : O ++ ⟨#[111, 107, 10]⟩ ++ TT ++ E = X := by
          rw [← hXe, ← hO, ← hE, ← hTTe, hTx, hx]
          apply ByteArray.ext
          apply Array.toList_inj.1
          simp [sOk]
        have hsO : O.size ≤ 1000 := by rw [← hO]; exact oks_size hT4
        have hsE : E.size ≤ 1000 := by rw [← hE]; exact endL_size hml
        have hsT : TT.size ≤ 1000 := by rw [← hTTe, hTx]; exact text_size (tv_fit HTVL.out) (by rw [HTL.out]; decide)
        obtain ⟨A1, hA1⟩ : ∃ A1, O ++ ⟨#[111, 107, 10]⟩ = A1 := ⟨_, rfl⟩
        obtain ⟨A2, hA2⟩ : ∃ A2, A1 ++ TT = A2 := ⟨_, rfl⟩
        have hs1 : O.size + 3 ≤ 9223372036854775807 := by omega
        have hy1 : A1.size ≤ 2000 := by rw [← hA1, ByteArray.size_append]; show O.size + 3 ≤ _; omega
        have hs2 : A1.size + TT.size ≤ 9223372036854775807 := by omega
        have hy2 : A2.size ≤ 3000 := by rw [← hA2, ByteArray.size_append]; omega
        have hs3 : A2.size + E.size ≤ 9223372036854775807 := by omega
        rw [hA1, hA2] at hall
        have HEX := Lib.hid hEX
        have HO := Lib.hid hO
        have HE := Lib.hid hE
        have HTX := Lib.hid hTTe
        clear hx hEX hXe hO hE hTx hTTe
        go_wp2_with fail
        refine (HEX.out).mono ?_
        rintro e w8 ⟨rfl, hb8⟩
        have HB8 := Lib.hid (HB7.out.trans (hb8.mono HB7.out.size))
        have HP8 := Lib.hid (HP7.out.keep hb8 (Nat.le_refl _))
        have HA8 := Lib.hid (HA7.out.keep hb8 (Nat.le_refl _))
        clear hb8
        go_wp2_with fail
        refine (okLinesI ao cap L.length w8 (by omega)).mono ?_
        rw [HO.out]
        rintro e w9 ⟨rfl, hb9⟩
        have HB9 := Lib.hid (HB8.out.trans (hb9.mono HB8.out.size))
        have HP9 := Lib.hid (HP8.out.keep hb9 (Nat.le_refl _))
        have HA9 := Lib.hid (HA8.out.keep hb9 (Nat.le_refl _))
        clear hb9
        go_wp2_with fail
        refine (tableTextI a5 t5 0 c5 T w9 HA9.out (by rw [HTL.out]; decide) HP9.out.1.1).mono ?_
        rw [HTX.out]
        rintro e w10 ⟨rfl, hb10⟩
        have HB10 := Lib.hid (HB9.out.trans (hb10.mono HB9.out.size))
        clear hb10
        go_wp2_with fail
        refine (endLineI M.length w10 (by omega)).mono ?_
        rw [HE.out]
        rintro e w11 ⟨rfl, hb11⟩
        have HB11 := Lib.hid (HB10.out.trans (hb11.mono HB10.out.size))
        clear hb11
        go_wp2_with fail
        go_ret
        exact ⟨rfl, HB11.out⟩
      · have h6 : 500 < S.size := by omega
        clear h5
        go_wp2_with fail
        go_ret
        exact ⟨rfl, HB7.out⟩
    · have HNV := Lib.hid hv
      clear hv
      go_wp2_with fail
      refine (withoutI_f ao b cap L k w1 HT1.out (by omega) HNV.out).mono ?_
      rintro e w2 ⟨rfl, hb2⟩
      have HB2 := Lib.hid (HB1.out.trans (hb2.mono HB1.out.size))
      have HT2 := Lib.hid (HT1.out.keep hb2 (Nat.le_refl _))
      clear hb2
      go_wp2_with fail
      refine (withoutS_f ao b cap L k w2 HT2.out (by omega) HNV.out).mono ?_
      rintro e w3 ⟨a3, rfl, hb3⟩
      have HB3 := Lib.hid (HB2.out.trans (hb3.mono HB2.out.size))
      clear hb3
      have HSY := Lib.hid (fun W : World => samePpl_yes none a3 0 0 0 0 0 0 [] W ⟨fun h => absurd h (by simp), fun i hi => absurd hi (by simp)⟩ ⟨fun h => absurd h (by simp), fun i hi => absurd hi (by simp)⟩ (by simp))
      go_wp2_with fail
      refine (HSY.out w3).mono ?_
      rintro e w4 ⟨rfl, q, rfl⟩
      have HB4 := Lib.hid (HB3.out.trans ((below_draws w3 q).mono HB3.out.size))
      go_wp2_with fail
      refine (HSY.out _).mono ?_
      rintro e w5 ⟨rfl, q5, rfl⟩
      have HB5 := Lib.hid (HB4.out.trans ((below_draws (w3.drewN q) q5).mono HB4.out.size))
      go_wp2_with fail
      go_ret
      first | exact ⟨rfl, HB5.out⟩ | (rw [← World.drewN_add]; exact ⟨rfl, HB5.out⟩) | (have := HB5.out; rw [World.drewN_drewN] at this; exact ⟨rfl, this⟩)
end Go.Proofs.YtcjhenfofekofaaGreatDoor
