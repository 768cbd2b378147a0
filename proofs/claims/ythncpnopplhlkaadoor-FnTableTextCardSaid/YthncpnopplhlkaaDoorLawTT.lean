/-
  The walk of laws.FnTableText.
-/
import Derived.Test.YthncpnopplhlkaaDoorDrawTT
import Derived.Test.YthncpnopplhlkaaDoorTextMore
import Derived.Test.YthncpnopplhlkaaDoorCount
import Derived.Test.YthncpnopplhlkaaDoorTfS
import Derived.Test.YthncpnopplhlkaaDoorEqs
import Derived.Test.YthncpnopplhlkaaDoorErrLaid
namespace Go.Proofs.YthncpnopplhlkaaDoor
open Go.RowKit
open Go.ParseMath (tfB ttL rowsS tvB_okT rowsS_text text_nil)
open Go.TextMath (tvB text)

theorem isE (s : ByteArray) : s.toList.isEmpty = s.data.toList.isEmpty := by rw [Lib.toList_data]
theorem tt_size (T : List (List Int)) : (tt T).size ≤ 164 := by
  cases hv : tvB T with
  | false => rw [tt_f hv]; exact Nat.zero_le _
  | true =>
    rw [tt_t hv]
    have h := text_short (M := []) (tv_fit hv) T.length (Nat.le_refl _)
    rw [List.take_length] at h
    have h4 := (tv_t.1 hv).2.1
    simp [ByteArray.size]
    omega
theorem tt_lines {T : List (List Int)} (h : tvB T = true) : (tt T).data.toList.count 10 = T.length := by
  rw [tt_t h]
  exact Go.TextMath.text_lines T [] (fun i hi => ((tv_fit h).2 i hi).1)
theorem tt_ne {T : List (List Int)} (h : tvB T = true) : (tt T).toList.isEmpty = false := by
  have h1 := tt_lines h
  have h2 := (tv_t.1 h).1
  rw [isE]
  cases ht : (tt T).data.toList with
  | nil => rw [ht] at h1; simp at h1; omega
  | cons a r => rfl
theorem tf_tab {T : List (List Int)} (h : tvB T = true) : tfB (tt T).data.toList = true ∧ tfT (tt T).data.toList = T := by
  obtain ⟨k1, _, k3, _⟩ := tvB_okT h
  have hl : (tt T).data.toList = text T [] := by rw [tt_t h]
  have hr := rowsS_text k3
  have hb : tfB (text T []) = true := by
    unfold tfB
    rw [hr, decide_eq_true (text_nil k1), decide_eq_true (by unfold ttL; rw [h]; rfl)]
    rfl
  rw [hl]
  exact ⟨hb, by rw [tf_tt hb]; exact hr⟩

set_option maxHeartbeats 1000000 in
theorem tableText (a0 : Option Addr) (b0 o0 cap0 : Nat) (xs0 : List Int) (w : World) (hr0 : Row .u8 w a0 b0 o0 xs0) (hl0 : xs0.length ≤ cap0 ∧ cap0 ≤ 9223372036854775807) (hw0 : ∀ i, i < xs0.length → (Lit.int .u8 (xs0.getD i 0)).wf = true) (ht : LibL w) :
    Calls Tryd.prog 4 #[.slice a0 xs0.length cap0] w fun e w' => e = .returned (.bool true) ∧ Below w.heap.size w w' := by
  have HP := Lib.hid ht
  have HD := Lib.hid (drawTT a0 b0 o0 cap0 xs0 w hr0 hl0 hw0)
  clear hr0 hw0 ht
  by_cases hbig : 1048576 < xs0.length
  · go_enter Tryd.func4, Tryd.ntmps4
    go_wp2_with fail
    go_ret
    exact ⟨rfl, Below.refl _ _⟩
  · have hs0 : xs0.length ≤ 1048576 := by omega
    clear hbig
    go_enter Tryd.func4, Tryd.ntmps4
    go_wp2_with fail
    refine (HD.out).mono ?_
    rintro e w1 ⟨ao, b, cap, T, rfl, hT, hc1, hc2, hT4, _, hb1⟩
    have HT := Lib.hid hT.int
    have HB1 := Lib.hid hb1
    have HP1 := Lib.hid (HP.out.keep hb1 (Nat.le_refl _))
    clear hT hb1
    go_wp2_with fail
    refine (tableTextI ao b 0 cap T w1 HT.out (by omega) HP1.out.1).mono ?_
    rintro e w2 ⟨rfl, hb2⟩
    have HT2 := Lib.hid (HT.out.keep hb2 (Nat.le_refl _))
    have HP2 := Lib.hid (HP1.out.keep hb2 (Nat.le_refl _))
    have HB2 := Lib.hid (HB1.out.trans (hb2.mono HB1.out.size))
    clear hb2
    go_wp2_with fail
    refine (tableTextS ao b 0 cap T w2 HT2.out (by omega)).mono ?_
    rintro e w3 ⟨rfl, hb3⟩
    have HT3 := Lib.hid (HT2.out.keep hb3 (Nat.le_refl _))
    have HP3 := Lib.hid (HP2.out.keep hb3 (Nat.le_refl _))
    have HB3 := Lib.hid (HB2.out.trans (hb3.mono HB2.out.size))
    clear hb3
    cases hv : tvB T with
    | false =>
      rw [tt_f hv]
      go_wp2_with fail
      go_ret
      exact ⟨rfl, HB3.out⟩
    | true =>
      have hne := tt_ne hv
      have hsz := tt_size T
      have HLN := Lib.hid (tt_lines hv)
      obtain ⟨htf1, htf2⟩ := tf_tab hv
      have HTF := Lib.hid (tfI (tt T) (by omega) w3 HP3.out.2 HP3.out.1)
      unfold TfP at HTF
      rw [htf1, htf2] at HTF
      obtain ⟨S, hS⟩ : ∃ S, tt T = S := ⟨_, rfl⟩
      rw [hS] at hne hsz HLN HTF ⊢
      clear hS hv htf1 htf2
      go_wp2_with fail
      refine (HTF.out).mono ?_
      rintro e w4 ⟨v4, g4, rfl, hm4, hb4⟩
      obtain ⟨a4, b4, c4, rfl, k1, k2, htab4⟩ := hm4.tab
      have HT4 := Lib.hid htab4
      have HT34 := Lib.hid (HT3.out.keep hb4 (Nat.le_refl _))
      have HB4 := Lib.hid (HB3.out.trans (hb4.mono HB3.out.size))
      clear hm4 hb4 htab4
      go_wp2_with fail
      go_loop [8, 9] (fun a i => ∃ j : Nat, j ≤ S.size ∧ i = .int .i64 j ∧ a = .int .i64 ((S.data.toList.take j).count 10 : Nat)) (fun _ i => S.size - (intOf i).toNat)
      case atStart => exact ⟨0, Nat.zero_le _, rfl, rfl⟩
      case round =>
        obtain ⟨j, hj, rfl, rfl⟩ := hrel
        by_cases hlt : j < S.size
        · have hsu := count_step S 10 hlt
          have hme := count_le S 10 j
          obtain ⟨m, hm⟩ : ∃ m, (S.data.toList.take j).count 10 = m := ⟨_, rfl⟩
          rw [hm] at hsu hme ⊢
          by_cases hy : S[j]'hlt = 10
          · rw [if_pos hy] at hsu
            have hp : (((S[j]'hlt).toNat : Int) == 10) = true := byte_yes (c := 10) (n := 10) rfl hy
            have HSU := Lib.hid hsu
            clear hsu hm hy
            go_wp2_with fail
            go_round
            case rel => exact ⟨j + 1, by omega, by go_num, by rw [HSU.out]; go_num⟩
            case measure => simp [intOf]; omega
          · rw [if_neg hy] at hsu
            have hp : (((S[j]'hlt).toNat : Int) == 10) = false := byte_no (c := 10) (n := 10) rfl hy
            have HSU := Lib.hid hsu
            clear hsu hm hy
            go_wp2_with fail
            go_round
            case rel => exact ⟨j + 1, by omega, by go_num, by rw [HSU.out]; rfl⟩
            case measure => simp [intOf]; omega
        · obtain rfl : j = S.size := by omega
          rw [count_all, HLN.out]
          go_wp2_with fail
          refine (sameRows_yes a4 ao b4 0 c4 b 0 cap T w4 HT4.out HT34.out (by omega)).mono ?_
          rintro e w5 ⟨rfl, q, rfl⟩
          have hb1 : ((T.length : Int) == (T.length : Int)) = true := by simp
          go_wp2_with fail
          go_ret
          exact ⟨by simp, HB4.out.trans ((below_draws w4 q).mono HB4.out.size)⟩
end Go.Proofs.YthncpnopplhlkaaDoor
