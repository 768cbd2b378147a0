/-
  The walk of laws.FnMaskText.
-/
import Derived.Test.YtgnmfbgoacfjeaaDoorLawMRows
import Derived.Test.YtgnmfbgoacfjeaaDoorMany
import Derived.Test.YtgnmfbgoacfjeaaDoorCopyR
namespace Go.Proofs.YtgnmfbgoacfjeaaDoor
open Go.RowKit
open Go.TextMath (text line rowW cellW word tvB mvB flags)

theorem mt_x {T : List (List Int)} {M : List (List Bool)} (h : mvB T M = true) : (mt T M).data.toList.count 120 = flags M := by
  rw [mt_t h]
  obtain ⟨h0, h1, h2⟩ := mv_t.1 h
  obtain ⟨t1, t2, t3, t4, t5⟩ := tv_t.1 h0
  exact Go.TextMath.text_x T M (fun i hi => by rw [(t5 i hi).1]; exact t3) h1 (fun i hi => by rw [h2 i (by omega), (t5 i hi).1])
theorem allM_mv {T : List (List Int)} (h : tvB T = true) (x : Bool) : mvB T (allM T x) = true := by
  obtain ⟨t1, t2, t3, t4, t5⟩ := tv_t.1 h
  refine mv_t.2 ⟨h, allM_len T x, fun i hi => ?_⟩
  rw [allM_len] at hi
  rw [allM_row hi, List.length_replicate, (t5 i hi).1]
theorem rep_false (n j : Nat) : (List.replicate n false).getD j false = false := by
  rw [List.getD_eq_getElem?_getD, List.getElem?_replicate]
  split <;> rfl
theorem mt_none {T : List (List Int)} (h : tvB T = true) : mt T (allM T false) = tt T := by
  rw [mt_t (allM_mv h false), tt_t h, Go.TextMath.text_congr T T (allM T false) [] rfl (fun _ _ => rfl) (fun i hi j hj => by
    rw [allM_row hi]
    rw [rep_false]
    rfl)]
/-- Some of the hidden cells hold 7, all the others what they held. -/
def Sev (T : List (List Int)) (M : List (List Bool)) (Y : List (List Int)) : Prop :=
  Y.length = T.length ∧ (∀ a, a < T.length → (Y.getD a []).length = (T.getD a []).length) ∧ ∀ a, a < T.length → ∀ c, c < (T.getD a []).length → (Y.getD a []).getD c 0 = (T.getD a []).getD c 0 ∨ ((M.getD a []).getD c false = true ∧ (Y.getD a []).getD c 0 = 7)
theorem Sev.refl (T : List (List Int)) (M : List (List Bool)) : Sev T M T := ⟨rfl, fun _ _ => rfl, fun _ _ _ _ => .inl rfl⟩
theorem Sev.set {T Y : List (List Int)} {M : List (List Bool)} (h : Sev T M Y) {k j : Nat} (hk : k < T.length) (hj : j < (T.getD k []).length) (hx : (M.getD k []).getD j false = true) : Sev T M (Y.set k ((Y.getD k []).set j 7)) := by
  obtain ⟨h1, h2, h3⟩ := h
  refine ⟨by rw [List.length_set, h1], fun a ha => ?_, fun a ha c hc => ?_⟩
  · rw [getD_set _ _ _ _ _ (by omega)]
    by_cases e : a = k
    · rw [if_pos e, List.length_set, e]; exact h2 k hk
    · rw [if_neg e]; exact h2 a ha
  · rw [getD_set _ _ _ _ _ (by omega)]
    by_cases e : a = k
    · subst e
      rw [if_pos rfl, getD_set _ _ _ _ _ (by rw [h2 a ha]; exact hj)]
      by_cases e2 : c = j
      · subst e2
        rw [if_pos rfl]
        exact .inr ⟨hx, rfl⟩
      · rw [if_neg e2]; exact h3 a ha c hc
    · rw [if_neg e]; exact h3 a ha c hc
theorem Sev.mt {T Y : List (List Int)} {M : List (List Bool)} (h : Sev T M Y) (hv : mvB T M = true) : mt Y M = mt T M := by
  obtain ⟨h1, h2, h3⟩ := h
  obtain ⟨m1, m2, m3⟩ := mv_t.1 hv
  obtain ⟨t1, t2, t3, t4, t5⟩ := tv_t.1 m1
  have h20 := h2 0 (by omega)
  have hvy : mvB Y M = true := by
    refine mv_t.2 ⟨tv_t.2 ⟨by omega, by omega, by omega, by omega, fun i hi => ?_⟩, by omega, fun i hi => by rw [m3 i hi, h20]⟩
    obtain ⟨e1, e2⟩ := t5 i (by omega)
    have h2i := h2 i (by omega)
    refine ⟨by omega, fun j hj => ?_⟩
    rcases h3 i (by omega) j (by omega) with e | ⟨_, e⟩
    · rw [e]; exact e2 j (by omega)
    · rw [e]; exact ⟨by omega, by omega⟩
  rw [mt_t hvy, mt_t hv]
  rw [Go.TextMath.text_congr Y T M M h1 (fun i hi => h2 i (by omega)) (fun i hi j hj => ?_)]
  have h2i := h2 i (by omega)
  rcases h3 i (by omega) j (by omega) with e | ⟨e1, _⟩
  · rw [e]
  · rw [e1]; rfl

set_option maxHeartbeats 1000000 in
theorem maskText (a0 : Option Addr) (b0 o0 cap0 : Nat) (xs0 : List Int) (w : World) (hr0 : Row .u8 w a0 b0 o0 xs0) (hl0 : xs0.length ≤ cap0 ∧ cap0 ≤ 9223372036854775807) (hw0 : ∀ i, i < xs0.length → (Lit.int .u8 (xs0.getD i 0)).wf = true) (ht : PowTab w) :
    Calls Tryd.prog 9 #[.slice a0 xs0.length cap0] w fun e w' => e = .returned (.bool true) ∧ Below w.heap.size w w' := by
  have HP := Lib.hid ht
  have HD := Lib.hid (drawMaskT a0 b0 o0 cap0 xs0 w hr0 hl0 hw0)
  clear hr0 hw0 ht
  by_cases hbig : 1048576 < xs0.length
  · go_enter Tryd.func9, Tryd.ntmps9
    go_wp2_with fail
    go_ret
    exact ⟨rfl, Below.refl _ _⟩
  · have hs0 : xs0.length ≤ 1048576 := by omega
    clear hbig
    go_enter Tryd.func9, Tryd.ntmps9
    go_wp2_with fail
    refine (HD.out).mono ?_
    rintro e w1 ⟨ao, b, cap, T, am, bm, cm, M, rfl, ⟨hT, hc1, hc2, hT4, hT5⟩, ⟨hM, hc3, hc4, hM5, hM6⟩, hb1⟩
    have HT := Lib.hid hT.int
    have HM := Lib.hid hM.bool
    have HT5 := Lib.hid hT5
    have HM6 := Lib.hid hM6
    have HB1 := Lib.hid hb1
    have HP1 := Lib.hid (HP.out.keep hb1 (Nat.le_refl _))
    clear hT hb1 hM hT5 hM6
    go_wp2_with fail
    refine (maskTextI ao b 0 cap T am bm 0 cm M w1 HT.out (by omega) HM.out ⟨hc3, hc4⟩ HP1.out).mono ?_
    rintro e w2 ⟨rfl, hb2⟩
    have HT2 := Lib.hid (HT.out.keep hb2 (Nat.le_refl _))
    have HM2 := Lib.hid (HM.out.keep hb2 (Nat.le_refl _))
    have HP2 := Lib.hid (HP1.out.keep hb2 (Nat.le_refl _))
    have HB2 := Lib.hid (HB1.out.trans (hb2.mono HB1.out.size))
    clear hb2
    go_wp2_with fail
    refine (maskTextS ao b 0 cap T am bm 0 cm M w2 HT2.out (by omega) HM2.out ⟨hc3, hc4⟩).mono ?_
    rintro e w3 ⟨rfl, hb3⟩
    have HT3 := Lib.hid (HT2.out.keep hb3 (Nat.le_refl _))
    have HM3 := Lib.hid (HM2.out.keep hb3 (Nat.le_refl _))
    have HP3 := Lib.hid (HP2.out.keep hb3 (Nat.le_refl _))
    have HB3 := Lib.hid (HB2.out.trans (hb3.mono HB2.out.size))
    clear hb3
    cases hv : mvB T M with
    | false =>
      rw [mt_f hv]
      go_wp2_with fail
      go_ret
      exact ⟨rfl, HB3.out⟩
    | true =>
      have hne := mt_ne hv
      have hsz := mt_size T M
      have hT1 := (tv_t.1 (mv_tv hv)).1
      have HML := Lib.hid (mv_t.1 hv).2.1
      have HFIT := Lib.hid (tv_fit (mv_tv hv))
      have HLN : Hid (∀ i, i < T.length → (M.getD i []).length = (T.getD i []).length) := Lib.hid (fun i hi => by
        obtain ⟨h0, h1, h2⟩ := mv_t.1 hv
        rw [h2 i (by omega), ((tv_t.1 h0).2.2.2.2 i hi).1])
      have HX := Lib.hid (mt_x hv)
      have HNO := Lib.hid (mt_none (mv_tv hv))
      have HSV := Lib.hid (fun (Y : List (List Int)) (h : Sev T M Y) => h.mt hv)
      obtain ⟨Q, hQ⟩ : ∃ Q, flags M = Q := ⟨_, rfl⟩
      rw [hQ] at HX
      have HQ := Lib.hid hQ
      obtain ⟨S, hS⟩ : ∃ S, mt T M = S := ⟨_, rfl⟩
      rw [hS] at hne hsz HX HSV ⊢
      clear hS hv hQ
      obtain rfl := HT.out.1 (by omega)
      obtain rfl := HM.out.1 (by rw [HML.out]; omega)
      go_wp2_with fail
      go_loop [7, 8] (fun c i => ∃ j : Nat, j ≤ S.size ∧ i = .int .i64 j ∧ c = .int .i64 ((S.data.toList.take j).count 120 : Nat)) (fun _ i => S.size - (intOf i).toNat)
      case atStart => exact ⟨0, Nat.zero_le _, rfl, rfl⟩
      case round =>
        obtain ⟨j, hj, rfl, rfl⟩ := hrel
        by_cases hlt : j < S.size
        · have hst := count_step S 120 hlt
          have hle := count_le S 120 j
          obtain ⟨n, hn⟩ : ∃ n, (S.data.toList.take j).count 120 = n := ⟨_, rfl⟩
          rw [hn] at hst hle ⊢
          by_cases hx : S[j]'hlt = 120
          · rw [if_pos hx] at hst
            have hq : (((S[j]'hlt).toNat : Int) == 120) = true := byte_yes (c := 120) (n := 120) rfl hx
            have HST := Lib.hid hst
            clear hst hx hn
            go_wp2_with fail
            go_round
            case rel => exact ⟨j + 1, by omega, by go_num, by rw [HST.out]; go_num⟩
            case measure => simp [intOf]; omega
          · rw [if_neg hx] at hst
            have hq : (((S[j]'hlt).toNat : Int) == 120) = false := byte_no (c := 120) (n := 120) rfl hx
            have HST := Lib.hid hst
            clear hst hx hn
            go_wp2_with fail
            go_round
            case rel => exact ⟨j + 1, by omega, by go_num, by rw [HST.out]; rfl⟩
            case measure => simp [intOf]; omega
        · obtain rfl : j = S.size := by omega
          have hQe : (S.data.toList.take S.size).count 120 = Q := by rw [count_all]; exact HX.out
          have hqq : ((Q : Int) == (Q : Int)) = true := by simp
          rw [hQe]
          clear hQe
          go_wp2_with fail
          refine (copyI _ b 0 cap T w3 HT3.out (by omega) (fun i hi => ⟨(HFIT.out.2 i hi).1, Nat.le_trans (HT5.out i hi) (by omega)⟩)).mono ?_
          rintro e w4 ⟨v, g, rfl, hm4, hb4⟩
          have HB4 := Lib.hid hb4
          obtain ⟨yo, yb, yc, hyv, hyc, hyc2, hyo, -, -⟩ := hm4.cells
          obtain ⟨rfl, hyl, -⟩ := hyo (by omega)
          subst hyv
          have HM4 := Lib.hid hm4
          clear hm4 hb4 hyo
          have hw3 : w.heap.size ≤ w3.heap.size := HB3.out.size
          go_wp2_with fail
          go_loopw [10] (fun i wr => ∃ (k : Nat) (Y : List (List Int)), k ≤ T.length ∧ i = .int .i64 k ∧ MtI wr w3.heap.size (.slice (some ⟨yb, 0, none⟩) T.length yc) Y g ∧ Sev T M Y ∧ Below w3.heap.size w3 wr) (fun i _ => T.length - (intOf i).toNat)
          case atStart => exact ⟨0, T, Nat.zero_le _, rfl, HM4.out, Sev.refl T M, HB4.out⟩
          case round =>
            clear HM4 HB4
            obtain ⟨k, Y, hk, rfl, hmy, hsv, hby⟩ := hrel
            have HY := Lib.hid hmy
            have HSY := Lib.hid hsv
            have HBY := Lib.hid hby
            clear hmy hsv hby
            by_cases hkl : k < T.length
            · go_wp2_with fail
              go_loopw [11] (fun i wr => ∃ (j : Nat) (Y : List (List Int)), j ≤ (T.getD k []).length ∧ i = .int .i64 j ∧ MtI wr w3.heap.size (.slice (some ⟨yb, 0, none⟩) T.length yc) Y g ∧ Sev T M Y ∧ Below w3.heap.size w3 wr) (fun i _ => (T.getD k []).length - (intOf i).toNat)
              case atStart => exact ⟨0, Y, Nat.zero_le _, rfl, HY.out, HSY.out, HBY.out⟩
              case round =>
                clear HY HSY HBY
                obtain ⟨j, Y, hj, rfl, hmy, hsv, hby⟩ := hrel
                have HY := Lib.hid hmy
                have HSY := Lib.hid hsv
                have HBY := Lib.hid hby
                obtain ⟨a1, b1, o1, c1, hcellT, -, -, -⟩ := (HT3.out.keep hby (Nat.le_refl _)).2 k hkl
                obtain ⟨a2, b2, o2, c2, hcellM, hrowM, -, -⟩ := (HM3.out.keep hby (Nat.le_refl _)).2 k (by rw [HML.out]; exact hkl)
                have hlnM := HLN.out k hkl
                obtain ⟨n, hn⟩ : ∃ n, (T.getD k []).length = n := ⟨_, rfl⟩
                rw [Nat.zero_add] at hcellT
                rw [hlnM, Nat.zero_add] at hcellM
                rw [hn] at hcellT hcellM hj hlnM ⊢
                have HN := Lib.hid hn
                have hkM : k < M.length := by rw [HML.out]; exact hkl
                clear hmy hsv hby hn
                by_cases hjn : j < n
                · obtain rfl := hrowM.1 (by omega)
                  have hcx := hrowM.2 j (by omega)
                  obtain ⟨x, hx⟩ : ∃ x, (M.getD k []).getD j false = x := ⟨_, rfl⟩
                  rw [hx] at hcx
                  have hyk : k < Y.length := by rw [HSY.out.1]; exact hkl
                  have hyn : (Y.getD k []).length = n := by rw [HSY.out.2.1 k hkl, HN.out]
                  obtain ⟨c, d1, -, d2, d3, -, htl, hkc⟩ := HY.out.at_ (i := k) hyk
                  obtain ⟨z, hz⟩ : ∃ z, (Y.getD k [])[j]? = some z := ⟨_, get_of (d := 0) (by rw [hyn]; exact hjn)⟩
                  obtain ⟨d4, d5⟩ := HY.out.elt (i := k) hyk hz
                  have hlow := HY.out.low k hyk
                  rw [hyn] at d1 d2
                  have HPUT := Lib.hid (HY.out.put (i := k) (j := j) (by decide) hyk (by rw [hyn]; exact hjn) 7)
                  have HSET := Lib.hid (fun (h : x = true) => HSY.out.set (k := k) (j := j) hkl (by rw [HN.out]; exact hjn) (by rw [hx]; exact h))
                  obtain ⟨gk, hgk⟩ : ∃ gk, g k = gk := ⟨_, rfl⟩
                  rw [hgk] at d1 d4 d5 hlow HPUT
                  clear hx hz hgk hyn hrowM hlnM
                  cases x with
                  | true =>
                    go_wp2_with fail
                    go_roundw
                    case rel => exact ⟨j + 1, _, by omega, by go_num, HPUT.out, HSET.out rfl, HBY.out.setCell (p := ⟨gk, j, none⟩) hlow _⟩
                    case measure => simp [intOf]; omega
                  | false =>
                    go_wp2_with fail
                    go_roundw
                    case rel => exact ⟨j + 1, Y, by omega, by go_num, HY.out, HSY.out, HBY.out⟩
                    case measure => simp [intOf]; omega
                · obtain rfl : j = n := by omega
                  clear hrowM hlnM
                  go_wp2_with fail
                  go_roundw
                  case rel => exact ⟨k + 1, Y, by omega, by go_num, HY.out, HSY.out, HBY.out⟩
                  case measure => simp [intOf]; omega
            · obtain rfl : k = T.length := by omega
              have HT5w := Lib.hid (HT3.out.keep HBY.out (Nat.le_refl _))
              have HM5w := Lib.hid (HM3.out.keep HBY.out (Nat.le_refl _))
              have HP5 := Lib.hid (HP3.out.keep HBY.out (Nat.le_refl _))
              have HBw := Lib.hid (HB3.out.trans (HBY.out.mono hw3))
              go_wp2_with fail
              refine (manyI _ bm 0 cm M wr HM5w.out (by omega) (fun i hi => Nat.le_trans (HM6.out i hi) (by omega))).mono ?_
              rintro e w' ⟨rfl, rfl⟩
              rw [HQ.out]
              go_wp2_with fail
              refine (allMaskI _ b 0 cap T false w' HT5w.out (by omega) (fun i hi => Nat.le_trans (HT5.out i hi) (by omega))).mono ?_
              rintro e w6 ⟨v6, g6, rfl, hm6, hb6⟩
              obtain ⟨ma, mb, mcap, hmv, hmc1, hmc2, hmt⟩ := hm6.tabB
              subst hmv
              have HMA := Lib.hid hmt
              have HT6 := Lib.hid (HT5w.out.keep hb6 (Nat.le_refl _))
              have HM6w := Lib.hid (HM5w.out.keep hb6 (Nat.le_refl _))
              have HP6 := Lib.hid (HP5.out.keep hb6 (Nat.le_refl _))
              have HY6 := Lib.hid (HY.out.below hb6)
              have HB6 := Lib.hid (HBw.out.trans (hb6.mono HBw.out.size))
              clear hm6 hb6 hmt
              go_wp2_with fail
              refine (maskTextI _ b 0 cap T ma mb 0 mcap (allM T false) w6 HT6.out (by omega) HMA.out ⟨hmc1, hmc2⟩ HP6.out).mono ?_
              rintro e w7 ⟨rfl, hb7⟩
              rw [HNO.out]
              have HT7 := Lib.hid (HT6.out.keep hb7 (Nat.le_refl _))
              have HM7 := Lib.hid (HM6w.out.keep hb7 (Nat.le_refl _))
              have HP7 := Lib.hid (HP6.out.keep hb7 (Nat.le_refl _))
              have HY7 := Lib.hid (HY6.out.below hb7)
              have HB7 := Lib.hid (HB6.out.trans (hb7.mono HB6.out.size))
              clear hb7
              obtain ⟨S0, hS0⟩ : ∃ S0, tt T = S0 := ⟨_, rfl⟩
              have HS0 := Lib.hid hS0
              rw [hS0]
              clear hS0
              go_wp2_with fail
              refine (tableTextI _ b 0 cap T w7 HT7.out (by omega) HP7.out).mono ?_
              rintro e w8 ⟨rfl, hb8⟩
              rw [HS0.out]
              have HM8 := Lib.hid (HM7.out.keep hb8 (Nat.le_refl _))
              have HP8 := Lib.hid (HP7.out.keep hb8 (Nat.le_refl _))
              have HY8 := Lib.hid (HY7.out.below hb8)
              have HB8 := Lib.hid (HB7.out.trans (hb8.mono HB7.out.size))
              clear hb8
              go_wp2_with fail
              have hfin := maskTextI (some ⟨yb, 0, none⟩) yb 0 yc Y (some ⟨bm, 0, none⟩) bm 0 cm M w8 HY8.out.tabT.int (by rw [HSY.out.1]; omega) HM8.out ⟨hc3, hc4⟩ HP8.out
              rw [HSY.out.1, HSV.out Y HSY.out] at hfin
              refine hfin.mono ?_
              rintro e w9 ⟨rfl, hb9⟩
              have HB9 := Lib.hid (HB8.out.trans (hb9.mono HB8.out.size))
              clear hb9 hfin
              go_wp2_with fail
              go_ret
              exact ⟨ret_bool (by simp), HB9.out⟩
end Go.Proofs.YtgnmfbgoacfjeaaDoor
