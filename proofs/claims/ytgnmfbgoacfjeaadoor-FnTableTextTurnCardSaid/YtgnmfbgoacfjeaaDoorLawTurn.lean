/-
  The walk of laws.FnTableTextTurn.
-/
import Derived.Test.YtgnmfbgoacfjeaaDoorDrawTT
import Derived.Test.YtgnmfbgoacfjeaaDoorTexts
import Derived.Test.YtgnmfbgoacfjeaaDoorTextMore
import Derived.Test.YtgnmfbgoacfjeaaDoorTurn
namespace Go.Proofs.YtgnmfbgoacfjeaaDoor
open Go.RowKit
open Go.TextMath (text line rowW cellW word tvB mvB)

theorem isE (s : ByteArray) : s.toList.isEmpty = s.data.toList.isEmpty := by rw [Lib.toList_data]
theorem tt_size (T : List (List Int)) : (tt T).size ≤ 164 := by
  cases hv : tvB T with
  | false => rw [tt_f hv]; exact Nat.zero_le _
  | true =>
    rw [tt_t hv]
    have h := text_short (M := []) (tv_fit hv) T.length (Nat.le_refl _)
    rw [List.take_length] at h
    have h4 := (tv_t.1 hv).2.1
    simp [ByteArray.size]
    omega
theorem tt_ne {T : List (List Int)} (h : tvB T = true) : (tt T).toList.isEmpty = false := by
  rw [isE, tt_t h]
  obtain ⟨h1, _, h3, _, _⟩ := tv_t.1 h
  have := Go.TextMath.text_lines T [] (fun i hi => ((tv_fit h).2 i hi).1)
  cases ht : text T [] with
  | nil => rw [ht] at this; simp at this; omega
  | cons a r => rfl
theorem tt_turn {T : List (List Int)} (h : tvB T = true) : (tt (turnT T)).size = (tt T).size := by
  rw [tt_t h, tt_t (turn_tv h)]
  simp only [ByteArray.size, List.size_toArray]
  exact turn_text h

set_option maxHeartbeats 1000000 in
theorem tableTextTurn (a0 : Option Addr) (b0 o0 cap0 : Nat) (xs0 : List Int) (w : World) (hr0 : Row .u8 w a0 b0 o0 xs0) (hl0 : xs0.length ≤ cap0 ∧ cap0 ≤ 9223372036854775807) (hw0 : ∀ i, i < xs0.length → (Lit.int .u8 (xs0.getD i 0)).wf = true) (ht : PowTab w) :
    Calls Tryd.prog 7 #[.slice a0 xs0.length cap0] w fun e w' => e = .returned (.bool true) ∧ Below w.heap.size w w' := by
  have HP := Lib.hid ht
  have HD := Lib.hid (drawTT a0 b0 o0 cap0 xs0 w hr0 hl0 hw0)
  clear hr0 hw0 ht
  by_cases hbig : 1048576 < xs0.length
  · go_enter Tryd.func7, Tryd.ntmps7
    go_wp2_with fail
    go_ret
    exact ⟨rfl, Below.refl _ _⟩
  · have hs0 : xs0.length ≤ 1048576 := by omega
    clear hbig
    go_enter Tryd.func7, Tryd.ntmps7
    go_wp2_with fail
    refine (HD.out).mono ?_
    rintro e w1 ⟨ao, b, cap, T, rfl, hT, hc1, hc2, hT4, _, hb1⟩
    have HT := Lib.hid hT.int
    have HB1 := Lib.hid hb1
    have HP1 := Lib.hid (HP.out.keep hb1 (Nat.le_refl _))
    clear hT hb1
    go_wp2_with fail
    refine (tableTextI ao b 0 cap T w1 HT.out (by omega) HP1.out).mono ?_
    rintro e w2 ⟨rfl, hb2⟩
    have HT2 := Lib.hid (HT.out.keep hb2 (Nat.le_refl _))
    have HP2 := Lib.hid (HP1.out.keep hb2 (Nat.le_refl _))
    have HB2 := Lib.hid (HB1.out.trans (hb2.mono HB1.out.size))
    clear hb2
    go_wp2_with fail
    refine (tableTextS ao b 0 cap T w2 HT2.out (by omega)).mono ?_
    rintro e w3 ⟨rfl, hb3⟩
    have HT3 := Lib.hid (HT2.out.keep hb3 (Nat.le_refl _))
    have HP3 := Lib.hid (HP2.out.keep hb3 (Nat.le_refl _))
    have HB3 := Lib.hid (HB2.out.trans (hb3.mono HB2.out.size))
    clear hb3
    cases hv : tvB T with
    | false =>
      rw [tt_f hv]
      go_wp2_with fail
      go_ret
      exact ⟨rfl, HB3.out⟩
    | true =>
      have hne := tt_ne hv
      have hsz := tt_size T
      have hsz2 := tt_size (turnT T)
      have htu := tt_turn hv
      obtain ⟨S, hS⟩ : ∃ S, tt T = S := ⟨_, rfl⟩
      rw [hS] at hne hsz htu ⊢
      have HV := Lib.hid hv
      have HTU := Lib.hid htu
      clear hS hv htu
      go_wp2_with fail
      refine (turnI_t ao b 0 cap T w3 HT3.out (by omega) HV.out).mono ?_
      rintro e w4 ⟨v, g, rfl, hm, hb4⟩
      obtain ⟨au, bu, cu, rfl, hu1, hu2, hu3⟩ := hm.tab
      have HU := Lib.hid hu3
      have HB4 := Lib.hid (HB3.out.trans (hb4.mono HB3.out.size))
      have HP4 := Lib.hid (HP3.out.keep hb4 (Nat.le_refl _))
      obtain ⟨U, hU⟩ : ∃ U, turnT T = U := ⟨_, rfl⟩
      rw [hU] at HU hu1 hsz2 HTU ⊢
      clear hm hb4 hU hu3
      go_wp2_with fail
      refine (tableTextI au bu 0 cu U w4 HU.out (by omega) HP4.out).mono ?_
      rintro e w5 ⟨rfl, hb5⟩
      have HB5 := Lib.hid (HB4.out.trans (hb5.mono HB4.out.size))
      clear hb5
      go_wp2_with fail
      go_ret
      exact ⟨ret_bool (by rw [HTU.out]; simp), HB5.out⟩
end Go.Proofs.YtgnmfbgoacfjeaaDoor
