/-
  The walk of laws.FnMaskTextRows.
-/
import Derived.Test.YtgnmfbgoacfjeaaDoorDrawMT
import Derived.Test.YtgnmfbgoacfjeaaDoorTextsM
import Derived.Test.YtgnmfbgoacfjeaaDoorTextMore
import Derived.Test.YtgnmfbgoacfjeaaDoorLawTRows
import Derived.Test.YtgnmfbgoacfjeaaDoorCount
namespace Go.Proofs.YtgnmfbgoacfjeaaDoor
open Go.RowKit
open Go.TextMath (text line rowW cellW word tvB mvB)

theorem tabB_take {w : World} {ao : Option Addr} {b off : Nat} {T : List (List Bool)} (h : TabB w ao b off T) (m : Nat) : TabB w ao b off (T.take m) := by
  refine ⟨fun h0 => h.1 (by rw [List.length_take] at h0; omega), fun i hi => ?_⟩
  rw [List.length_take] at hi
  rw [Go.TextMath.getD_tak T [] (by omega)]
  exact h.2 i (by omega)
theorem tabB_drop {w : World} {ao : Option Addr} {b off : Nat} {T : List (List Bool)} (h : TabB w ao b off T) (m : Nat) : TabB w (some ⟨b, off + m, none⟩) b (off + m) (T.drop m) := by
  refine ⟨fun _ => rfl, fun i hi => ?_⟩
  rw [List.length_drop] at hi
  rw [Go.TextMath.getD_app T]
  have := h.2 (i + m) (by omega)
  rw [show off + (i + m) = off + m + i by omega] at this
  exact this
theorem mv_parts {T : List (List Int)} {M : List (List Bool)} (h : mvB T M = true) {k : Nat} (h0 : 0 < k) (hk : k < T.length) : mvB (T.take k) (M.take k) = true ∧ mvB (T.drop k) (M.drop k) = true := by
  obtain ⟨h1, h2, h3⟩ := mv_t.1 h
  obtain ⟨p1, p2⟩ := tv_parts h1 h0 hk
  have e := ((tv_t.1 h1).2.2.2.2 k hk).1
  constructor
  · refine mv_t.2 ⟨p1, by rw [List.length_take, List.length_take, h2], fun i hi => ?_⟩
    rw [List.length_take] at hi
    rw [Go.TextMath.getD_tak T [] h0, Go.TextMath.getD_tak M [] (by omega)]
    exact h3 i (by omega)
  · refine mv_t.2 ⟨p2, by rw [List.length_drop, List.length_drop, h2], fun i hi => ?_⟩
    rw [List.length_drop] at hi
    rw [Go.TextMath.getD_app T, Go.TextMath.getD_app M, Nat.zero_add, e]
    exact h3 (i + k) (by omega)
theorem mt_parts {T : List (List Int)} {M : List (List Bool)} (h : mvB T M = true) {k : Nat} (h0 : 0 < k) (hk : k < T.length) : mt (T.take k) (M.take k) ++ mt (T.drop k) (M.drop k) = mt T M := by
  obtain ⟨h1, h2⟩ := mv_parts h h0 hk
  rw [mt_t h, mt_t h1, mt_t h2, str_add, Go.TextMath.text_parts T M k (by omega)]
theorem mt_size (T : List (List Int)) (M : List (List Bool)) : (mt T M).size ≤ 164 := by
  cases hv : mvB T M with
  | false => rw [mt_f hv]; exact Nat.zero_le _
  | true =>
    rw [mt_t hv]
    have h := text_short (M := M) (tv_fit (mv_tv hv)) T.length (Nat.le_refl _)
    rw [List.take_length] at h
    have h4 := (tv_t.1 (mv_tv hv)).2.1
    simp [ByteArray.size]
    omega
theorem mt_ne {T : List (List Int)} {M : List (List Bool)} (h : mvB T M = true) : (mt T M).toList.isEmpty = false := by
  rw [isE, mt_t h]
  obtain ⟨h1, _, h3, _, _⟩ := tv_t.1 (mv_tv h)
  have := Go.TextMath.text_lines T M (fun i hi => ((tv_fit (mv_tv h)).2 i hi).1)
  cases ht : text T M with
  | nil => rw [ht] at this; simp at this; omega
  | cons a r => rfl
theorem mt_spaces {T : List (List Int)} {M : List (List Bool)} (h : mvB T M = true) : (mt T M).data.toList.count 32 = T.length * ((T.getD 0 []).length - 1) := by
  rw [mt_t h]
  obtain ⟨h1, h2, h3, h4, h5⟩ := tv_t.1 (mv_tv h)
  exact Go.TextMath.text_spaces T M _ (fun i hi => by rw [(h5 i hi).1]; omega)

set_option maxHeartbeats 1000000 in
theorem maskTextRows (a0 : Option Addr) (b0 o0 cap0 : Nat) (xs0 : List Int) (a1 : Option Addr) (b1 o1 cap1 : Nat) (xs1 : List Int) (w : World) (hr0 : Row .u8 w a0 b0 o0 xs0) (hl0 : xs0.length ≤ cap0 ∧ cap0 ≤ 9223372036854775807) (hw0 : ∀ i, i < xs0.length → (Lit.int .u8 (xs0.getD i 0)).wf = true)
    (_ : Row .u8 w a1 b1 o1 xs1) (hl1 : xs1.length ≤ cap1 ∧ cap1 ≤ 9223372036854775807) (_ : ∀ i, i < xs1.length → (Lit.int .u8 (xs1.getD i 0)).wf = true) (ht : PowTab w) :
    Calls Tryd.prog 8 #[.slice a0 xs0.length cap0, .slice a1 xs1.length cap1] w fun e w' => e = .returned (.bool true) ∧ Below w.heap.size w w' := by
  have HP := Lib.hid ht
  have HD := Lib.hid (drawMaskT a0 b0 o0 cap0 xs0 w hr0 hl0 hw0)
  clear hr0 hw0 ht
  obtain ⟨m, hm⟩ : ∃ m, xs1.length = m := ⟨_, rfl⟩
  rw [hm] at hl1 ⊢
  by_cases hbig : 1048576 < xs0.length ∨ 1048576 < m
  · clear hm
    rcases (show 1048576 < xs0.length ∨ (xs0.length ≤ 1048576 ∧ 1048576 < m) by omega) with h | ⟨h, h2⟩
    all_goals
      go_enter Tryd.func8, Tryd.ntmps8
      go_wp2_with fail
      go_ret
      exact ⟨rfl, Below.refl _ _⟩
  · have hs0 : xs0.length ≤ 1048576 := by omega
    have hs1 : m ≤ 1048576 := by omega
    clear hbig hm
    go_enter Tryd.func8, Tryd.ntmps8
    go_wp2_with fail
    refine (HD.out).mono ?_
    rintro e w1 ⟨ao, b, cap, T, am, bm, cm, M, rfl, ⟨hT, hc1, hc2, hT4, -⟩, ⟨hM, hc3, hc4, hM5, -⟩, hb1⟩
    have HT := Lib.hid hT.int
    have HM := Lib.hid hM.bool
    have HB1 := Lib.hid hb1
    have HP1 := Lib.hid (HP.out.keep hb1 (Nat.le_refl _))
    clear hT hb1 hM
    go_wp2_with fail
    refine (maskTextI ao b 0 cap T am bm 0 cm M w1 HT.out (by omega) HM.out ⟨hc3, hc4⟩ HP1.out).mono ?_
    rintro e w2 ⟨rfl, hb2⟩
    have HT2 := Lib.hid (HT.out.keep hb2 (Nat.le_refl _))
    have HM2 := Lib.hid (HM.out.keep hb2 (Nat.le_refl _))
    have HP2 := Lib.hid (HP1.out.keep hb2 (Nat.le_refl _))
    have HB2 := Lib.hid (HB1.out.trans (hb2.mono HB1.out.size))
    clear hb2
    go_wp2_with fail
    refine (maskTextS ao b 0 cap T am bm 0 cm M w2 HT2.out (by omega) HM2.out ⟨hc3, hc4⟩).mono ?_
    rintro e w3 ⟨rfl, hb3⟩
    have HT3 := Lib.hid (HT2.out.keep hb3 (Nat.le_refl _))
    have HM3 := Lib.hid (HM2.out.keep hb3 (Nat.le_refl _))
    have HP3 := Lib.hid (HP2.out.keep hb3 (Nat.le_refl _))
    have HB3 := Lib.hid (HB2.out.trans (hb3.mono HB2.out.size))
    clear hb3
    cases hv : mvB T M with
    | false =>
      rw [mt_f hv]
      go_wp2_with fail
      go_ret
      exact ⟨rfl, HB3.out⟩
    | true =>
      have hne := mt_ne hv
      have hsz := mt_size T M
      obtain ⟨hT1, -, hT2, hT3, -⟩ := tv_t.1 (mv_tv hv)
      have HML := Lib.hid (mv_t.1 hv).2.1
      have HSP := Lib.hid (mt_spaces hv)
      obtain ⟨c0, hc0⟩ : ∃ c0, (T.getD 0 []).length = c0 := ⟨_, rfl⟩
      rw [hc0] at hT2 hT3 HSP
      obtain ⟨Q, hQ⟩ : ∃ Q, T.length * (c0 - 1) = Q := ⟨_, rfl⟩
      rw [hQ] at HSP
      have hQ12 : Q ≤ 12 := by rw [← hQ]; exact Nat.mul_le_mul hT4 (show c0 - 1 ≤ 3 by omega)
      have hmul : (T.length : Int) * ((c0 : Int) - 1) = (Q : Int) := by rw [← hQ, show ((c0 : Int) - 1) = ((c0 - 1 : Nat) : Int) by omega]; rfl
      obtain ⟨a', b', o', c', hcell, -, -, -⟩ := HT3.out.2 0 (by omega)
      rw [hc0] at hcell
      have HCELL := Lib.hid hcell
      obtain ⟨S, hS⟩ : ∃ S, mt T M = S := ⟨_, rfl⟩
      rw [hS] at hne hsz HSP ⊢
      have HS := Lib.hid hS
      have HV := Lib.hid hv
      have HMUL := Lib.hid hmul
      clear hS hv hQ hmul hcell hc0
      obtain ⟨k, hk⟩ : ∃ k, m % T.length = k := ⟨_, rfl⟩
      have hkl : k < T.length := by rw [← hk]; exact Nat.mod_lt _ (by omega)
      have hke : (m : Int) % (T.length : Int) = (k : Int) := by rw [← hk]; rfl
      have HKE := Lib.hid hke
      obtain rfl := HT.out.1 (by omega)
      obtain rfl := HM.out.1 (by rw [HML.out]; omega)
      have hn0 : 0 < T.length := by omega
      have hn0i : (0 : Int) < (T.length : Int) := by omega
      clear hk hke
      go_wp2_with fail
      go_loop [10, 11] (fun c i => ∃ j : Nat, j ≤ S.size ∧ i = .int .i64 j ∧ c = .int .i64 ((S.data.toList.take j).count 32 : Nat)) (fun _ i => S.size - (intOf i).toNat)
      case atStart => exact ⟨0, Nat.zero_le _, rfl, rfl⟩
      case round =>
        obtain ⟨j, hj, rfl, rfl⟩ := hrel
        by_cases hlt : j < S.size
        · have hst := count_step S 32 hlt
          have hle := count_le S 32 j
          obtain ⟨n, hn⟩ : ∃ n, (S.data.toList.take j).count 32 = n := ⟨_, rfl⟩
          rw [hn] at hst hle ⊢
          by_cases hx : S[j]'hlt = 32
          · rw [if_pos hx] at hst
            have hq : (((S[j]'hlt).toNat : Int) == 32) = true := byte_yes (c := 32) (n := 32) rfl hx
            have HST := Lib.hid hst
            clear hst hx hn
            go_wp2_with fail
            go_round
            case rel => exact ⟨j + 1, by omega, by go_num, by rw [HST.out]; go_num⟩
            case measure => simp [intOf]; omega
          · rw [if_neg hx] at hst
            have hq : (((S[j]'hlt).toNat : Int) == 32) = false := byte_no (c := 32) (n := 32) rfl hx
            have HST := Lib.hid hst
            clear hst hx hn
            go_wp2_with fail
            go_round
            case rel => exact ⟨j + 1, by omega, by go_num, by rw [HST.out]; rfl⟩
            case measure => simp [intOf]; omega
        · obtain rfl : j = S.size := by omega
          have hQe : (S.data.toList.take S.size).count 32 = Q := by rw [count_all]; exact HSP.out
          have hmul := HMUL.out
          have hcell := HCELL.out
          have hqq : ((Q : Int) == (Q : Int)) = true := by simp
          have hc01 : (0 : Int) ≤ (c0 : Int) - 1 := by omega
          rw [hQe]
          clear hQe
          by_cases hk0 : k = 0
          · subst hk0
            have hz : ((m : Int) % (T.length : Int) == 0) = true := by rw [HKE.out]; rfl
            go_wp2_with fail
            refine (maskTextI _ b 0 cap T _ bm 0 cm M w3 HT3.out (by omega) HM3.out ⟨hc3, hc4⟩ HP3.out).mono ?_
            rintro e w4 ⟨rfl, hb4⟩
            rw [HS.out]
            have HB4 := Lib.hid (HB3.out.trans (hb4.mono HB3.out.size))
            clear hb4
            go_wp2_with fail
            go_ret
            exact ⟨by simp, HB4.out⟩
          · have hz : ((m : Int) % (T.length : Int) == 0) = false := by rw [HKE.out]; simp; omega
            have hkp := mt_parts HV.out (show 0 < k by omega) hkl
            have hs1 := mt_size (T.take k) (M.take k)
            have hs2 := mt_size (T.drop k) (M.drop k)
            have hkm : k < M.length := by rw [HML.out]; exact hkl
            have HA := Lib.hid (fun (W : World) (hW : Below w3.heap.size w3 W) => maskTextI (some ⟨b, 0, none⟩) b 0 cap (T.take k) (some ⟨bm, 0, none⟩) bm 0 cm (M.take k) W (tab_take (HT3.out.keep hW (Nat.le_refl _)) k) (by rw [List.length_take]; omega) (tabB_take (HM3.out.keep hW (Nat.le_refl _)) k) ⟨by rw [List.length_take]; omega, hc4⟩ (HP3.out.keep hW (Nat.le_refl _)))
            have HC := Lib.hid (fun (W : World) (hW : Below w3.heap.size w3 W) => maskTextI (some ⟨b, 0 + k, none⟩) b (0 + k) (cap - k) (T.drop k) (some ⟨bm, 0 + k, none⟩) bm (0 + k) (cm - k) (M.drop k) W (tab_drop (HT3.out.keep hW (Nat.le_refl _)) k) (by rw [List.length_drop]; omega) (tabB_drop (HM3.out.keep hW (Nat.le_refl _)) k) ⟨by rw [List.length_drop]; omega, by omega⟩ (HP3.out.keep hW (Nat.le_refl _)))
            rw [show (T.take k).length = k by rw [List.length_take]; omega, show (M.take k).length = k by rw [List.length_take]; omega] at HA
            rw [List.length_drop, List.length_drop, Nat.zero_add] at HC
            rw [HS.out] at hkp
            obtain ⟨S1, hS1⟩ : ∃ S1, mt (T.take k) (M.take k) = S1 := ⟨_, rfl⟩
            obtain ⟨S2, hS2⟩ : ∃ S2, mt (T.drop k) (M.drop k) = S2 := ⟨_, rfl⟩
            rw [hS1] at hkp hs1 HA
            rw [hS2] at hkp hs2 HC
            have HKP := Lib.hid hkp
            have hck : cap ≠ k := by omega
            have hckf : (cap = k) = False := by simp [hck]
            have hkc : k ≤ cap := by omega
            have hkci : (k : Int) ≤ (cap : Int) := by omega
            have hkn : k ≤ T.length := by omega
            have hckm : cm ≠ k := by omega
            have hckfm : (cm = k) = False := by simp [hckm]
            have hkcm : k ≤ cm := by omega
            have hkcim : (k : Int) ≤ (cm : Int) := by omega
            have hknm : k ≤ M.length := by omega
            clear hkp hS1 hS2
            go_wp2_with fail
            rw [HKE.out]
            have hok : Below w3.heap.size w3 w3.drew := (Below.refl _ _).drew
            clear hmul hcell hqq
            go_region_with (go_at_call 25; (first | (with_reducible refine (HA.out _ (by assumption)).mono ?_) | (with_reducible refine (HC.out _ (by assumption)).mono ?_)); rintro e w' ⟨rfl, hbx⟩; have hok2 := (Below.trans (by assumption) (hbx.mono (Below.size (by assumption)))); clear hbx)
            all_goals
              go_wp2_with fail
              go_ret
              exact ⟨ret_bool (by rw [HKP.out]; simp), HB3.out.trans (Below.mono (by assumption) HB3.out.size)⟩
end Go.Proofs.YtgnmfbgoacfjeaaDoor
