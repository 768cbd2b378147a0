/-
  The walk of laws.FnTableTextRows.
-/
import Derived.Test.YtgnmfbgoacfjeaaDoorDrawTT
import Derived.Test.YtgnmfbgoacfjeaaDoorTexts
import Derived.Test.YtgnmfbgoacfjeaaDoorTextMore
namespace Go.Proofs.YtgnmfbgoacfjeaaDoor
open Go.RowKit
open Go.TextMath (text line rowW cellW word tvB mvB)

theorem tab_take {k : IntKind} {w : World} {ao : Option Addr} {b off : Nat} {T : List (List Int)} (h : Tab k w ao b off T) (m : Nat) : Tab k w ao b off (T.take m) := by
  refine ⟨fun h0 => h.1 (by rw [List.length_take] at h0; omega), fun i hi => ?_⟩
  rw [List.length_take] at hi
  rw [Go.TextMath.getD_tak T [] (by omega)]
  exact h.2 i (by omega)
theorem tab_drop {k : IntKind} {w : World} {ao : Option Addr} {b off : Nat} {T : List (List Int)} (h : Tab k w ao b off T) (m : Nat) : Tab k w (some ⟨b, off + m, none⟩) b (off + m) (T.drop m) := by
  refine ⟨fun _ => rfl, fun i hi => ?_⟩
  rw [List.length_drop] at hi
  rw [Go.TextMath.getD_app T]
  have := h.2 (i + m) (by omega)
  rw [show off + (i + m) = off + m + i by omega] at this
  exact this
theorem tv_parts {T : List (List Int)} (h : tvB T = true) {k : Nat} (h0 : 0 < k) (hk : k < T.length) : tvB (T.take k) = true ∧ tvB (T.drop k) = true := by
  obtain ⟨h1, h2, h3, h4, h5⟩ := tv_t.1 h
  constructor
  · refine tv_t.2 ⟨?_, ?_, ?_, ?_, fun i hi => ?_⟩
    · rw [List.length_take]; omega
    · rw [List.length_take]; omega
    · rw [Go.TextMath.getD_tak T [] h0]; exact h3
    · rw [Go.TextMath.getD_tak T [] h0]; exact h4
    · rw [List.length_take] at hi
      rw [Go.TextMath.getD_tak T [] h0, Go.TextMath.getD_tak T [] (by omega)]
      exact h5 i (by omega)
  · have e := (h5 k hk).1
    refine tv_t.2 ⟨?_, ?_, ?_, ?_, fun i hi => ?_⟩
    · rw [List.length_drop]; omega
    · rw [List.length_drop]; omega
    · rw [Go.TextMath.getD_app T, Nat.zero_add, e]; exact h3
    · rw [Go.TextMath.getD_app T, Nat.zero_add, e]; exact h4
    · rw [List.length_drop] at hi
      rw [Go.TextMath.getD_app T, Go.TextMath.getD_app T, Nat.zero_add, e]
      exact h5 (i + k) (by omega)
theorem tt_parts {T : List (List Int)} (h : tvB T = true) {k : Nat} (h0 : 0 < k) (hk : k < T.length) : tt (T.take k) ++ tt (T.drop k) = tt T := by
  obtain ⟨h1, h2⟩ := tv_parts h h0 hk
  rw [tt_t h, tt_t h1, tt_t h2, str_add, Go.TextMath.text_parts0 T k (by omega)]
theorem tt_size (T : List (List Int)) : (tt T).size ≤ 164 := by
  cases hv : tvB T with
  | false => rw [tt_f hv]; exact Nat.zero_le _
  | true =>
    rw [tt_t hv]
    have h := text_short (M := []) (tv_fit hv) T.length (Nat.le_refl _)
    rw [List.take_length] at h
    have h4 := (tv_t.1 hv).2.1
    simp [ByteArray.size]
    omega
theorem isE (s : ByteArray) : s.toList.isEmpty = s.data.toList.isEmpty := by rw [Lib.toList_data]
theorem tt_ne {T : List (List Int)} (h : tvB T = true) : (tt T).toList.isEmpty = false := by
  rw [isE, tt_t h]
  obtain ⟨h1, _, h3, _, _⟩ := tv_t.1 h
  have := Go.TextMath.text_lines T [] (fun i hi => ((tv_fit h).2 i hi).1)
  cases ht : text T [] with
  | nil => rw [ht] at this; simp at this; omega
  | cons a r => rfl

set_option maxHeartbeats 1000000 in
theorem tableTextRows (a0 : Option Addr) (b0 o0 cap0 : Nat) (xs0 : List Int) (a1 : Option Addr) (b1 o1 cap1 : Nat) (xs1 : List Int) (w : World) (hr0 : Row .u8 w a0 b0 o0 xs0) (hl0 : xs0.length ≤ cap0 ∧ cap0 ≤ 9223372036854775807) (hw0 : ∀ i, i < xs0.length → (Lit.int .u8 (xs0.getD i 0)).wf = true)
    (_ : Row .u8 w a1 b1 o1 xs1) (hl1 : xs1.length ≤ cap1 ∧ cap1 ≤ 9223372036854775807) (_ : ∀ i, i < xs1.length → (Lit.int .u8 (xs1.getD i 0)).wf = true) (ht : PowTab w) :
    Calls Tryd.prog 5 #[.slice a0 xs0.length cap0, .slice a1 xs1.length cap1] w fun e w' => e = .returned (.bool true) ∧ Below w.heap.size w w' := by
  have HP := Lib.hid ht
  have HD := Lib.hid (drawTT a0 b0 o0 cap0 xs0 w hr0 hl0 hw0)
  clear hr0 hw0 ht
  obtain ⟨m, hm⟩ : ∃ m, xs1.length = m := ⟨_, rfl⟩
  rw [hm] at hl1 ⊢
  by_cases hbig : 1048576 < xs0.length ∨ 1048576 < m
  · clear hm
    rcases (show 1048576 < xs0.length ∨ (xs0.length ≤ 1048576 ∧ 1048576 < m) by omega) with h | ⟨h, h2⟩
    all_goals
      go_enter Tryd.func5, Tryd.ntmps5
      go_wp2_with fail
      go_ret
      exact ⟨rfl, Below.refl _ _⟩
  · have hs0 : xs0.length ≤ 1048576 := by omega
    have hs1 : m ≤ 1048576 := by omega
    clear hbig hm
    go_enter Tryd.func5, Tryd.ntmps5
    go_wp2_with fail
    refine (HD.out).mono ?_
    rintro e w1 ⟨ao, b, cap, T, rfl, hT, hc1, hc2, hT4, _, hb1⟩
    have HT := Lib.hid hT.int
    have HB1 := Lib.hid hb1
    have HP1 := Lib.hid (HP.out.keep hb1 (Nat.le_refl _))
    clear hT hb1
    go_wp2_with fail
    refine (tableTextI ao b 0 cap T w1 HT.out (by omega) HP1.out).mono ?_
    rintro e w2 ⟨rfl, hb2⟩
    have HT2 := Lib.hid (HT.out.keep hb2 (Nat.le_refl _))
    have HP2 := Lib.hid (HP1.out.keep hb2 (Nat.le_refl _))
    have HB2 := Lib.hid (HB1.out.trans (hb2.mono HB1.out.size))
    clear hb2
    go_wp2_with fail
    refine (tableTextS ao b 0 cap T w2 HT2.out (by omega)).mono ?_
    rintro e w3 ⟨rfl, hb3⟩
    have HT3 := Lib.hid (HT2.out.keep hb3 (Nat.le_refl _))
    have HP3 := Lib.hid (HP2.out.keep hb3 (Nat.le_refl _))
    have HB3 := Lib.hid (HB2.out.trans (hb3.mono HB2.out.size))
    clear hb3
    cases hv : tvB T with
    | false =>
      rw [tt_f hv]
      go_wp2_with fail
      go_ret
      exact ⟨rfl, HB3.out⟩
    | true =>
      have hne := tt_ne hv
      have hsz := tt_size T
      have hT1 := (tv_t.1 hv).1
      obtain ⟨S, hS⟩ : ∃ S, tt T = S := ⟨_, rfl⟩
      rw [hS] at hne hsz ⊢
      have HS := Lib.hid hS
      have HV := Lib.hid hv
      clear hS hv
      obtain ⟨k, hk⟩ : ∃ k, m % T.length = k := ⟨_, rfl⟩
      have hkl : k < T.length := by rw [← hk]; exact Nat.mod_lt _ (by omega)
      have hke : (m : Int) % (T.length : Int) = (k : Int) := by rw [← hk]; rfl
      have HKE := Lib.hid hke
      obtain rfl := HT.out.1 (by omega)
      have hn0 : 0 < T.length := by omega
      have hn0i : (0 : Int) < (T.length : Int) := by omega
      clear hk
      by_cases hk0 : k = 0
      · subst hk0
        clear hke
        have hz : ((m : Int) % (T.length : Int) == 0) = true := by rw [HKE.out]; rfl
        go_wp2_with fail
        refine (tableTextI _ b 0 cap T w3 HT3.out (by omega) HP3.out).mono ?_
        rintro e w4 ⟨rfl, hb4⟩
        rw [HS.out]
        have HB4 := Lib.hid (HB3.out.trans (hb4.mono HB3.out.size))
        clear hb4
        go_wp2_with fail
        go_ret
        exact ⟨by simp, HB4.out⟩
      · have hz : ((m : Int) % (T.length : Int) == 0) = false := by rw [HKE.out]; simp; omega
        have hkp := tt_parts HV.out (show 0 < k by omega) hkl
        have hs1 := tt_size (T.take k)
        have hs2 := tt_size (T.drop k)
        have HA := Lib.hid (fun (W : World) (hW : Below w3.heap.size w3 W) => tableTextI (some ⟨b, 0, none⟩) b 0 cap (T.take k) W (tab_take (HT3.out.keep hW (Nat.le_refl _)) k) (by rw [List.length_take]; omega) (HP3.out.keep hW (Nat.le_refl _)))
        have HC := Lib.hid (fun (W : World) (hW : Below w3.heap.size w3 W) => tableTextI (some ⟨b, 0 + k, none⟩) b (0 + k) (cap - k) (T.drop k) W (tab_drop (HT3.out.keep hW (Nat.le_refl _)) k) (by rw [List.length_drop]; omega) (HP3.out.keep hW (Nat.le_refl _)))
        rw [show (T.take k).length = k by rw [List.length_take]; omega] at HA
        rw [List.length_drop, Nat.zero_add] at HC
        rw [HS.out] at hkp
        obtain ⟨S1, hS1⟩ : ∃ S1, tt (T.take k) = S1 := ⟨_, rfl⟩
        obtain ⟨S2, hS2⟩ : ∃ S2, tt (T.drop k) = S2 := ⟨_, rfl⟩
        rw [hS1] at hkp hs1 HA
        rw [hS2] at hkp hs2 HC
        have HKP := Lib.hid hkp
        have hck : cap ≠ k := by omega
        have hckf : (cap = k) = False := by simp [hck]
        have hkc : k ≤ cap := by omega
        have hkci : (k : Int) ≤ (cap : Int) := by omega
        have hkn : k ≤ T.length := by omega
        clear hkp hS1 hS2
        go_wp2_with fail
        rw [HKE.out]
        have hok : Below w3.heap.size w3 w3.drew := (Below.refl _ _).drew
        clear hke
        go_region_with (go_at_call 18; (first | (with_reducible refine (HA.out _ (by assumption)).mono ?_) | (with_reducible refine (HC.out _ (by assumption)).mono ?_)); rintro e w' ⟨rfl, hbx⟩; have hok2 := (Below.trans (by assumption) (hbx.mono (Below.size (by assumption)))); clear hbx)
        all_goals
          go_wp2_with fail
          go_ret
          exact ⟨ret_bool (by rw [HKP.out]; simp), HB3.out.trans (Below.mono (by assumption) HB3.out.size)⟩
end Go.Proofs.YtgnmfbgoacfjeaaDoor
