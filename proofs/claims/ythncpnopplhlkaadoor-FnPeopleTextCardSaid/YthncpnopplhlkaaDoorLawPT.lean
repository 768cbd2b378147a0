/-
  The walk of laws.FnPeopleText.
-/
import Derived.Test.YthncpnopplhlkaaDoorDrawPpl
import Derived.Test.YthncpnopplhlkaaDoorPplText
import Derived.Test.YthncpnopplhlkaaDoorTextMore
import Derived.Test.YthncpnopplhlkaaDoorPfI
import Derived.Test.YthncpnopplhlkaaDoorSameP
import Derived.Test.YthncpnopplhlkaaDoorErrLaid
namespace Go.Proofs.YthncpnopplhlkaaDoor
open Go.RowKit
open Go.TextMath (text)

theorem perD_tak (L : List Per) {k i : Nat} (h : i < k) : (L.take k).getD i per0 = L.getD i per0 := by
  simp only [List.getD_eq_getElem?_getD, List.getElem?_take, if_pos h]
theorem perD_app (L : List Per) (k i : Nat) : (L.drop k).getD i per0 = L.getD (i + k) per0 := by
  simp only [List.getD_eq_getElem?_getD, List.getElem?_drop, Nat.add_comm]
theorem ppl_take {w : World} {ao : Option Addr} {b off : Nat} {L : List Per} (h : Ppl w ao b off L) (m : Nat) : Ppl w ao b off (L.take m) := by
  refine ⟨fun h0 => h.1 (by rw [List.length_take] at h0; omega), fun i hi => ?_⟩
  rw [List.length_take] at hi
  rw [perD_tak L (by omega)]
  exact h.2 i (by omega)
theorem ppl_drop {w : World} {ao : Option Addr} {b off : Nat} {L : List Per} (h : Ppl w ao b off L) (m : Nat) : Ppl w (some ⟨b, off + m * 4, none⟩) b (off + m * 4) (L.drop m) := by
  refine ⟨fun _ => rfl, fun i hi => ?_⟩
  rw [List.length_drop] at hi
  rw [perD_app L]
  have := h.2 (i + m) (by omega)
  rw [show off + (i + m) * 4 = off + m * 4 + i * 4 by omega] at this
  exact this
theorem ppl_nil (w : World) (ao : Option Addr) (b off : Nat) : Ppl w ao b off [] := ⟨fun h => absurd h (by simp), fun i hi => absurd hi (by simp)⟩
theorem pplB_parts {L : List Per} (h : pplB L = true) (k : Nat) : pplB (L.take k) = true ∧ pplB (L.drop k) = true := by
  obtain ⟨h1, h2⟩ := ppl_t.1 h
  constructor
  · refine ppl_t.2 ⟨by rw [List.length_take]; omega, fun i hi => ?_⟩
    rw [List.length_take] at hi
    rw [perD_tak L (by omega)]
    exact h2 i (by omega)
  · refine ppl_t.2 ⟨by rw [List.length_drop]; omega, fun i hi => ?_⟩
    rw [List.length_drop] at hi
    rw [perD_app L]
    exact h2 _ (by omega)
theorem tp_parts {L : List Per} (h : pplB L = true) {k : Nat} (hk : k ≤ L.length) : tp (L.take k) ++ tp (L.drop k) = tp L := by
  obtain ⟨h1, h2⟩ := pplB_parts h k
  have e : rowsOf (L.drop k) = (rowsOf L).drop k := by unfold rowsOf; rw [List.map_drop]
  rw [tp_t h, tp_t h1, tp_t h2, str_add, rowsOf_tk, e, Go.TextMath.text_parts0 (rowsOf L) k (by rw [rowsOf_len]; exact hk)]
theorem tp_size4 {L : List Per} (h : L.length ≤ 12) : (tp L).size ≤ 500 := by
  cases hv : pplB L with
  | false => rw [tp_f hv]; exact Nat.zero_le _
  | true =>
    rw [tp_t hv]
    have h := text_short (M := []) (ppl_fit hv) (rowsOf L).length (Nat.le_refl _)
    rw [List.take_length, rowsOf_len] at h
    simp [ByteArray.size]
    omega
theorem tp_read {L : List Per} (h : pplB L = true) : pfB (tp L).data.toList = true ∧ pfL (tp L).data.toList = L := by
  rw [tp_list]
  unfold tpL
  rw [if_pos h]
  exact pf_ppl h
theorem isEp (s : ByteArray) : s.toList.isEmpty = s.data.toList.isEmpty := by rw [Lib.toList_data]

set_option maxHeartbeats 9000000 in
theorem peopleText (a0 : Option Addr) (b0 o0 cap0 : Nat) (xs0 : List Int) (a1 : Option Addr) (b1 o1 cap1 : Nat) (xs1 : List Int) (w : World) (hr0 : Row .u8 w a0 b0 o0 xs0) (hl0 : xs0.length ≤ cap0 ∧ cap0 ≤ 9223372036854775807) (hw0 : ∀ i, i < xs0.length → (Lit.int .u8 (xs0.getD i 0)).wf = true)
    (_ : Row .u8 w a1 b1 o1 xs1) (hl1 : xs1.length ≤ cap1 ∧ cap1 ≤ 9223372036854775807) (_ : ∀ i, i < xs1.length → (Lit.int .u8 (xs1.getD i 0)).wf = true) (ht : LibL w) :
    Calls Tryd.prog 3 #[.slice a0 xs0.length cap0, .slice a1 xs1.length cap1] w fun e w' => e = .returned (.bool true) ∧ Below w.heap.size w w' := by
  have HP := Lib.hid ht
  have HD := Lib.hid (drawPT a0 b0 o0 cap0 xs0 w hr0 hl0 hw0)
  clear hr0 hw0 ht
  obtain ⟨m, hm⟩ : ∃ m, xs1.length = m := ⟨_, rfl⟩
  rw [hm] at hl1 ⊢
  by_cases hbig : 1048576 < xs0.length ∨ 1048576 < m
  · clear hm
    rcases (show 1048576 < xs0.length ∨ (xs0.length ≤ 1048576 ∧ 1048576 < m) by omega) with h | ⟨h, h2⟩
    all_goals
      go_enter Tryd.func3, Tryd.ntmps3
      go_wp2_with fail
      go_ret
      exact ⟨rfl, Below.refl _ _⟩
  · have hs0 : xs0.length ≤ 1048576 := by omega
    have hs1 : m ≤ 1048576 := by omega
    clear hbig hm
    go_enter Tryd.func3, Tryd.ntmps3
    go_wp2_with fail
    refine (HD.out).mono ?_
    rintro e w1 ⟨ao, b, cap, L, rfl, hT, hc1, hc2, hT4, hb1⟩
    have HT := Lib.hid hT
    have HB1 := Lib.hid hb1
    have HP1 := Lib.hid (HP.out.keep hb1 (Nat.le_refl _))
    clear hT hb1
    go_wp2_with fail
    refine (peopleTextI ao b 0 cap L w1 HT.out (by omega) HP1.out.1).mono ?_
    rintro e w2 ⟨rfl, hb2⟩
    have HT2 := Lib.hid (HT.out.keep hb2 (Nat.le_refl _))
    have HP2 := Lib.hid (HP1.out.keep hb2 (Nat.le_refl _))
    have HB2 := Lib.hid (HB1.out.trans (hb2.mono HB1.out.size))
    clear hb2
    go_wp2_with fail
    refine (peopleTextS ao b 0 cap L w2 HT2.out (by omega)).mono ?_
    rintro e w3 ⟨rfl, hb3⟩
    have HT3 := Lib.hid (HT2.out.keep hb3 (Nat.le_refl _))
    have HP3 := Lib.hid (HP2.out.keep hb3 (Nat.le_refl _))
    have HB3 := Lib.hid (HB2.out.trans (hb3.mono HB2.out.size))
    clear hb3
    have hsz := tp_size4 hT4
    by_cases hemp : (tp L).data.toList = []
    · have he1 : (tp L).toList = [] := by rw [Lib.toList_data]; exact hemp
      have he2 : (tp L).toList.isEmpty = true := by rw [he1]; rfl
      clear hemp
      obtain ⟨S, hS⟩ : ∃ S, tp L = S := ⟨_, rfl⟩
      rw [hS] at he1 he2 ⊢
      clear hS
      go_wp2_with fail
      go_ret
      exact ⟨rfl, HB3.out⟩
    · have he2 : (tp L).toList.isEmpty = false := by
        rw [isEp]
        cases h : (tp L).data.toList with
        | nil => exact absurd h hemp
        | cons a r => rfl
      have hv : pplB L = true := by
        cases hv : pplB L with
        | true => rfl
        | false => exact absurd (by rw [tp_f hv]) hemp
      have hL0 : 0 < L.length := by
        cases L with
        | nil => exact absurd rfl hemp
        | cons a r => simp
      obtain ⟨hrd1, hrd2⟩ := tp_read hv
      have HTF := Lib.hid (pfI (tp L) (by omega) w3 HP3.out.2 HP3.out.1)
      unfold PfP at HTF
      rw [hrd1, hrd2] at HTF
      have HV := Lib.hid hv
      obtain rfl := HT.out.1 hL0
      obtain ⟨k, hk⟩ : ∃ k, m % (L.length + 1) = k := ⟨_, rfl⟩
      have hkl : k ≤ L.length := by have := Nat.mod_lt m (show 0 < L.length + 1 by omega); omega
      have hke : (m : Int) % ((L.length : Int) + 1) = (k : Int) := by rw [← hk]; rfl
      have HKP := Lib.hid (tp_parts hv hkl)
      obtain ⟨S, hS⟩ : ∃ S, tp L = S := ⟨_, rfl⟩
      rw [hS] at hsz HTF he2 HKP ⊢
      have hs1 : (tp (L.take k)).size ≤ 500 := tp_size4 (by rw [List.length_take]; omega)
      have hs2 : (tp (L.drop k)).size ≤ 500 := tp_size4 (by rw [List.length_drop]; omega)
      have HKE := Lib.hid hke
      have hn1 : ((L.length : Int) + 1 == 0) = false := by simp; omega
      clear hS hv hrd1 hrd2 hk hemp
      go_wp2_with fail
      refine (HTF.out).mono ?_
      rintro e w4 ⟨v4, rfl, hm4, hb4⟩
      obtain ⟨a4, b4, c4, rfl, k1, k2, -, htab4⟩ := hm4.ppl
      have HT4 := Lib.hid htab4
      have HT34 := Lib.hid (HT3.out.keep hb4 (Nat.le_refl _))
      have HP4 := Lib.hid (HP3.out.keep hb4 (Nat.le_refl _))
      have HB4 := Lib.hid (HB3.out.trans (hb4.mono HB3.out.size))
      clear hm4 hb4 htab4
      have HSP := Lib.hid (fun (W : World) (hW : Below w4.heap.size w4 W) => (samePpl_yes a4 (some ⟨b, 0, none⟩) b4 0 c4 b 0 cap L W (HT4.out.keep hW (Nat.le_refl _)) (HT34.out.keep hW (Nat.le_refl _)) (by omega)).mono (R' := fun e w' => e = .returned (.bool true) ∧ Below W.heap.size W w') (fun e w' ⟨h1, q, h2⟩ => ⟨h1, by rw [h2]; exact below_draws W q⟩))
      have HA := Lib.hid (fun (W : World) (hW : Below w4.heap.size w4 W) => peopleTextI (some ⟨b, 0, none⟩) b 0 cap (L.take k) W (ppl_take (HT34.out.keep hW (Nat.le_refl _)) k) (by rw [List.length_take]; omega) (HP4.out.keep hW (Nat.le_refl _)).1)
      have HC := Lib.hid (fun (W : World) (hW : Below w4.heap.size w4 W) => peopleTextI (some ⟨b, 0 + k * 4, none⟩) b (0 + k * 4) (cap - k) (L.drop k) W (ppl_drop (HT34.out.keep hW (Nat.le_refl _)) k) (by rw [List.length_drop]; omega) (HP4.out.keep hW (Nat.le_refl _)).1)
      rw [show (L.take k).length = k by rw [List.length_take]; omega] at HA
      rw [List.length_drop, Nat.zero_add] at HC
      obtain ⟨S1, hS1⟩ : ∃ S1, tp (L.take k) = S1 := ⟨_, rfl⟩
      obtain ⟨S2, hS2⟩ : ∃ S2, tp (L.drop k) = S2 := ⟨_, rfl⟩
      rw [hS1] at HKP hs1 HA
      rw [hS2] at HKP hs2 HC
      have hkc : k ≤ cap := by omega
      have hkci : (k : Int) ≤ (cap : Int) := by omega
      have hkp := HKP.out
      have hss1 : S1.size + S2.size ≤ 1000 := by omega
      have hkn : (k : Int) ≤ (L.length : Int) := by omega
      have hkp := HKP.out
      have hss1 : S1.size + S2.size ≤ 1000 := by omega
      have hkn : (k : Int) ≤ (L.length : Int) := by omega
      have hkp := HKP.out
      have hss1 : S1.size + S2.size ≤ 9223372036854775807 := by omega
      have hkn : (k : Int) ≤ (L.length : Int) := by omega
      have hkp := HKP.out
      have hss1 : S1.size + S2.size ≤ 9223372036854775807 := by omega
      have hkn : (k : Int) ≤ (L.length : Int) := by omega
      have hkp := HKP.out
      have hss1 : S1.size + S2.size ≤ 9223372036854775807 := by omega
      have hkn : (k : Int) ≤ (L.length : Int) := by omega
      by_cases hck : cap = k
      · have hckf : (cap = k) = True := by simp [hck]
        have HLN := Lib.hid (show L.length = k by omega)
        have HNIL := Lib.hid (show L.drop k = [] from List.drop_eq_nil_of_le (by omega))
        clear hck
        go_wp2_with fail
        rw [HKE.out]
        clear hke
        have HC0 := Lib.hid (fun (W : World) (hW : Below w4.heap.size w4 W) => peopleTextI (some ⟨b, 0, none⟩) b 0 (cap - k) (L.drop k) W (by rw [HNIL.out]; exact ppl_nil _ _ _ _) (by rw [HNIL.out]; simp) (HP4.out.keep hW (Nat.le_refl _)).1)
        rw [hS2] at HC0
        rw [List.length_drop] at HC0
        refine wp_region_held (S := fun _ => True) (by kernel_rfl) ?_
        change wpAnyH _ _ _ _ _ _ _ _ w4.drew
        have hok : Below w4.heap.size w4 w4.drew := (Below.refl _ _).drew
        obtain ⟨Wd, hWd⟩ : ∃ Wd, w4.drew = Wd := ⟨_, rfl⟩
        rw [hWd] at hok ⊢
        refine wpAnyH_take (i := 0) (v := .bool true) rfl (by kernel_rfl) (by kernel_rfl) (by kernel_rfl) (fun _ _ _ h => h) (Or.inl ⟨by kernel_rfl, fun V _ => ?_⟩) trivial ?_
        · go_simp
        simp only [Act.put, List.setIfInBounds_toArray, List.set_cons_zero, List.set_cons_succ]
        refine wpAnyH_take (i := 1) (v := .bool true) rfl (by kernel_rfl) (by kernel_rfl) (by kernel_rfl) (fun _ _ _ h => h) (Or.inl ⟨by kernel_rfl, fun V _ => ?_⟩) trivial ?_
        · go_simp
        simp only [Act.put, List.setIfInBounds_toArray, List.set_cons_zero, List.set_cons_succ]
        refine wpAnyH_take (i := 2) (v := .slice a4 L.length c4) rfl (by kernel_rfl) (by kernel_rfl) (by kernel_rfl) (fun _ _ _ h => h) (Or.inl ⟨by kernel_rfl, fun V _ => ?_⟩) trivial ?_
        · go_simp
        simp only [Act.put, List.setIfInBounds_toArray, List.set_cons_zero, List.set_cons_succ]
        refine wpAnyH_take (i := 3) (v := .slice (some ⟨b, 0, none⟩) L.length cap) rfl (by kernel_rfl) (by kernel_rfl) (by kernel_rfl) (fun _ _ _ h => h) (Or.inl ⟨by kernel_rfl, fun V _ => ?_⟩) trivial ?_
        · go_simp
        simp only [Act.put, List.setIfInBounds_toArray, List.set_cons_zero, List.set_cons_succ]
        refine wpAnyH_ready (rs := [4]) (by kernel_rfl) (by simp) ?_
        refine AllReadyH.cons rfl (fun K hK => ?_) AllReadyH.nil
        first | (rw [if_pos (by kernel_rfl)]) | skip
        go_simp
        refine (HSP.out _ hok).mono ?_
        rintro e v11 ⟨rfl, hb11⟩
        have hok11 : Below w4.heap.size w4 v11 := hok.trans (hb11.mono hok.size)
        clear hb11
        refine hK.out _ _ trivial (fun _ => ?_)
        try simp only [Act.put, List.setIfInBounds_toArray, List.set_cons_zero, List.set_cons_succ]
        clear hK K
        refine wpAnyH_take (i := 5) (v := .bool true) rfl (by kernel_rfl) (by kernel_rfl) (by kernel_rfl) (fun _ _ _ h => h) (Or.inl ⟨by kernel_rfl, fun V _ => ?_⟩) trivial ?_
        · go_simp
        simp only [Act.put, List.setIfInBounds_toArray, List.set_cons_zero, List.set_cons_succ]
        refine wpAnyH_take (i := 6) (v := .bool true) rfl (by kernel_rfl) (by kernel_rfl) (by kernel_rfl) (fun _ _ _ h => h) (Or.inl ⟨by kernel_rfl, fun V _ => ?_⟩) trivial ?_
        · go_simp
        simp only [Act.put, List.setIfInBounds_toArray, List.set_cons_zero, List.set_cons_succ]
        refine wpAnyH_take (i := 7) (v := .slice (some ⟨b, 0, none⟩) L.length cap) rfl (by kernel_rfl) (by kernel_rfl) (by kernel_rfl) (fun _ _ _ h => h) (Or.inl ⟨by kernel_rfl, fun V _ => ?_⟩) trivial ?_
        · go_simp
        simp only [Act.put, List.setIfInBounds_toArray, List.set_cons_zero, List.set_cons_succ]
        refine wpAnyH_take (i := 8) (v := .int .i64 k) rfl (by kernel_rfl) (by kernel_rfl) (by kernel_rfl) (fun _ _ _ h => h) (Or.inl ⟨by kernel_rfl, fun V _ => ?_⟩) trivial ?_
        · go_simp
        simp only [Act.put, List.setIfInBounds_toArray, List.set_cons_zero, List.set_cons_succ]
        refine wpAnyH_take (i := 9) (v := .slice (some ⟨b, 0, none⟩) k cap) rfl (by kernel_rfl) (by kernel_rfl) (by kernel_rfl) (fun _ _ _ h => h) (Or.inl ⟨by kernel_rfl, fun V _ => ?_⟩) trivial ?_
        · go_simp
        simp only [Act.put, List.setIfInBounds_toArray, List.set_cons_zero, List.set_cons_succ]
        refine wpAnyH_take (i := 11) (v := .slice (some ⟨b, 0, none⟩) L.length cap) rfl (by kernel_rfl) (by kernel_rfl) (by kernel_rfl) (fun _ _ _ h => h) (Or.inl ⟨by kernel_rfl, fun V _ => ?_⟩) trivial ?_
        · go_simp
        simp only [Act.put, List.setIfInBounds_toArray, List.set_cons_zero, List.set_cons_succ]
        refine wpAnyH_take (i := 12) (v := .int .i64 k) rfl (by kernel_rfl) (by kernel_rfl) (by kernel_rfl) (fun _ _ _ h => h) (Or.inl ⟨by kernel_rfl, fun V _ => ?_⟩) trivial ?_
        · go_simp
        simp only [Act.put, List.setIfInBounds_toArray, List.set_cons_zero, List.set_cons_succ]
        refine wpAnyH_take (i := 13) (v := .slice (some ⟨b, 0, none⟩) (L.length - k : Nat) (cap - k : Nat)) rfl (by kernel_rfl) (by kernel_rfl) (by kernel_rfl) (fun _ _ _ h => h) (Or.inl ⟨by kernel_rfl, fun V _ => ?_⟩) trivial ?_
        · go_simp
        simp only [Act.put, List.setIfInBounds_toArray, List.set_cons_zero, List.set_cons_succ]
        refine wpAnyH_take (i := 16) (oi := ⟨some 62, _, _, _, _, _⟩) (v := .string S) rfl (by kernel_rfl) (by kernel_rfl) (by kernel_rfl) (fun _ _ _ h => h) (Or.inl ⟨by kernel_rfl, fun V _ => ?_⟩) trivial ?_
        · go_simp
        simp only [Act.put, List.setIfInBounds_toArray, List.set_cons_zero, List.set_cons_succ]
        refine wpAnyH_ready (rs := [10]) (by kernel_rfl) (by simp) ?_
        refine AllReadyH.cons rfl (fun K hK => ?_) AllReadyH.nil
        first | (rw [if_pos (by kernel_rfl)]) | skip
        go_simp
        refine (HA.out _ hok11).mono ?_
        rintro e v12 ⟨rfl, hb12⟩
        have hok12 : Below w4.heap.size w4 v12 := hok11.trans (hb12.mono hok11.size)
        clear hb12
        refine hK.out _ _ trivial (fun _ => ?_)
        try simp only [Act.put, List.setIfInBounds_toArray, List.set_cons_zero, List.set_cons_succ]
        clear hK K
        refine wpAnyH_ready (rs := [14]) (by kernel_rfl) (by simp) ?_
        refine AllReadyH.cons rfl (fun K hK => ?_) AllReadyH.nil
        first | (rw [if_pos (by kernel_rfl)]) | skip
        go_simp
        refine (HC0.out _ hok12).mono ?_
        rintro e v13 ⟨rfl, hb13⟩
        have hok13 : Below w4.heap.size w4 v13 := hok12.trans (hb13.mono hok12.size)
        clear hb13
        refine hK.out _ _ trivial (fun _ => ?_)
        try simp only [Act.put, List.setIfInBounds_toArray, List.set_cons_zero, List.set_cons_succ]
        clear hK K
        refine wpAnyH_take (i := 15) (oi := ⟨some 61, _, _, _, _, _⟩) (v := .string S) rfl (by kernel_rfl) (by kernel_rfl) (by kernel_rfl) (fun _ _ _ h => h) (Or.inl ⟨by kernel_rfl, fun V _ => ?_⟩) trivial ?_
        · go_simp
        simp only [Act.put, List.setIfInBounds_toArray, List.set_cons_zero, List.set_cons_succ]
        refine wpAnyH_take (i := 17) (oi := ⟨some 63, _, _, _, _, _⟩) (v := .bool true) rfl (by kernel_rfl) (by kernel_rfl) (by kernel_rfl) (fun _ _ _ h => h) (Or.inl ⟨by kernel_rfl, fun V _ => ?_⟩) trivial ?_
        · go_simp
        simp only [Act.put, List.setIfInBounds_toArray, List.set_cons_zero, List.set_cons_succ]
        refine wpAnyH_take (i := 18) (oi := ⟨some 64, _, _, _, _, _⟩) (v := .bool true) rfl (by kernel_rfl) (by kernel_rfl) (by kernel_rfl) (fun _ _ _ h => h) (Or.inl ⟨by kernel_rfl, fun V _ => ?_⟩) trivial ?_
        · go_simp
        simp only [Act.put, List.setIfInBounds_toArray, List.set_cons_zero, List.set_cons_succ]
        refine wpAnyH_take (i := 19) (oi := ⟨some 4, _, _, _, _, _⟩) (v := .bool true) rfl (by kernel_rfl) (by kernel_rfl) (by kernel_rfl) (fun _ _ _ h => h) (Or.inl ⟨by kernel_rfl, fun V _ => ?_⟩) trivial ?_
        · go_simp
        simp only [Act.put, List.setIfInBounds_toArray, List.set_cons_zero, List.set_cons_succ]
        refine wpAnyH_done (by kernel_rfl) ?_ _
        go_wp2_with fail
        go_ret
        exact ⟨rfl, HB4.out.trans (hok13.mono HB4.out.size)⟩
      · have hckf : (cap = k) = False := by simp [hck]
        go_wp2_with fail
        rw [HKE.out]
        clear hke
        refine wp_region_held (S := fun _ => True) (by kernel_rfl) ?_
        change wpAnyH _ _ _ _ _ _ _ _ w4.drew
        have hok : Below w4.heap.size w4 w4.drew := (Below.refl _ _).drew
        obtain ⟨Wd, hWd⟩ : ∃ Wd, w4.drew = Wd := ⟨_, rfl⟩
        rw [hWd] at hok ⊢
        refine wpAnyH_take (i := 0) (v := .bool true) rfl (by kernel_rfl) (by kernel_rfl) (by kernel_rfl) (fun _ _ _ h => h) (Or.inl ⟨by kernel_rfl, fun V _ => ?_⟩) trivial ?_
        · go_simp
        simp only [Act.put, List.setIfInBounds_toArray, List.set_cons_zero, List.set_cons_succ]
        refine wpAnyH_take (i := 1) (v := .bool true) rfl (by kernel_rfl) (by kernel_rfl) (by kernel_rfl) (fun _ _ _ h => h) (Or.inl ⟨by kernel_rfl, fun V _ => ?_⟩) trivial ?_
        · go_simp
        simp only [Act.put, List.setIfInBounds_toArray, List.set_cons_zero, List.set_cons_succ]
        refine wpAnyH_take (i := 2) (v := .slice a4 L.length c4) rfl (by kernel_rfl) (by kernel_rfl) (by kernel_rfl) (fun _ _ _ h => h) (Or.inl ⟨by kernel_rfl, fun V _ => ?_⟩) trivial ?_
        · go_simp
        simp only [Act.put, List.setIfInBounds_toArray, List.set_cons_zero, List.set_cons_succ]
        refine wpAnyH_take (i := 3) (v := .slice (some ⟨b, 0, none⟩) L.length cap) rfl (by kernel_rfl) (by kernel_rfl) (by kernel_rfl) (fun _ _ _ h => h) (Or.inl ⟨by kernel_rfl, fun V _ => ?_⟩) trivial ?_
        · go_simp
        simp only [Act.put, List.setIfInBounds_toArray, List.set_cons_zero, List.set_cons_succ]
        refine wpAnyH_ready (rs := [4]) (by kernel_rfl) (by simp) ?_
        refine AllReadyH.cons rfl (fun K hK => ?_) AllReadyH.nil
        first | (rw [if_pos (by kernel_rfl)]) | skip
        go_simp
        refine (HSP.out _ hok).mono ?_
        rintro e v11 ⟨rfl, hb11⟩
        have hok11 : Below w4.heap.size w4 v11 := hok.trans (hb11.mono hok.size)
        clear hb11
        refine hK.out _ _ trivial (fun _ => ?_)
        try simp only [Act.put, List.setIfInBounds_toArray, List.set_cons_zero, List.set_cons_succ]
        clear hK K
        refine wpAnyH_take (i := 5) (v := .bool true) rfl (by kernel_rfl) (by kernel_rfl) (by kernel_rfl) (fun _ _ _ h => h) (Or.inl ⟨by kernel_rfl, fun V _ => ?_⟩) trivial ?_
        · go_simp
        simp only [Act.put, List.setIfInBounds_toArray, List.set_cons_zero, List.set_cons_succ]
        refine wpAnyH_take (i := 6) (v := .bool true) rfl (by kernel_rfl) (by kernel_rfl) (by kernel_rfl) (fun _ _ _ h => h) (Or.inl ⟨by kernel_rfl, fun V _ => ?_⟩) trivial ?_
        · go_simp
        simp only [Act.put, List.setIfInBounds_toArray, List.set_cons_zero, List.set_cons_succ]
        refine wpAnyH_take (i := 7) (v := .slice (some ⟨b, 0, none⟩) L.length cap) rfl (by kernel_rfl) (by kernel_rfl) (by kernel_rfl) (fun _ _ _ h => h) (Or.inl ⟨by kernel_rfl, fun V _ => ?_⟩) trivial ?_
        · go_simp
        simp only [Act.put, List.setIfInBounds_toArray, List.set_cons_zero, List.set_cons_succ]
        refine wpAnyH_take (i := 8) (v := .int .i64 k) rfl (by kernel_rfl) (by kernel_rfl) (by kernel_rfl) (fun _ _ _ h => h) (Or.inl ⟨by kernel_rfl, fun V _ => ?_⟩) trivial ?_
        · go_simp
        simp only [Act.put, List.setIfInBounds_toArray, List.set_cons_zero, List.set_cons_succ]
        refine wpAnyH_take (i := 9) (v := .slice (some ⟨b, 0, none⟩) k cap) rfl (by kernel_rfl) (by kernel_rfl) (by kernel_rfl) (fun _ _ _ h => h) (Or.inl ⟨by kernel_rfl, fun V _ => ?_⟩) trivial ?_
        · go_simp
        simp only [Act.put, List.setIfInBounds_toArray, List.set_cons_zero, List.set_cons_succ]
        refine wpAnyH_take (i := 11) (v := .slice (some ⟨b, 0, none⟩) L.length cap) rfl (by kernel_rfl) (by kernel_rfl) (by kernel_rfl) (fun _ _ _ h => h) (Or.inl ⟨by kernel_rfl, fun V _ => ?_⟩) trivial ?_
        · go_simp
        simp only [Act.put, List.setIfInBounds_toArray, List.set_cons_zero, List.set_cons_succ]
        refine wpAnyH_take (i := 12) (v := .int .i64 k) rfl (by kernel_rfl) (by kernel_rfl) (by kernel_rfl) (fun _ _ _ h => h) (Or.inl ⟨by kernel_rfl, fun V _ => ?_⟩) trivial ?_
        · go_simp
        simp only [Act.put, List.setIfInBounds_toArray, List.set_cons_zero, List.set_cons_succ]
        refine wpAnyH_take (i := 13) (v := .slice (some ⟨b, k * 4, none⟩) (L.length - k : Nat) (cap - k : Nat)) rfl (by kernel_rfl) (by kernel_rfl) (by kernel_rfl) (fun _ _ _ h => h) (Or.inl ⟨by kernel_rfl, fun V _ => ?_⟩) trivial ?_
        · go_simp
        simp only [Act.put, List.setIfInBounds_toArray, List.set_cons_zero, List.set_cons_succ]
        refine wpAnyH_take (i := 16) (oi := ⟨some 62, _, _, _, _, _⟩) (v := .string S) rfl (by kernel_rfl) (by kernel_rfl) (by kernel_rfl) (fun _ _ _ h => h) (Or.inl ⟨by kernel_rfl, fun V _ => ?_⟩) trivial ?_
        · go_simp
        simp only [Act.put, List.setIfInBounds_toArray, List.set_cons_zero, List.set_cons_succ]
        refine wpAnyH_ready (rs := [10]) (by kernel_rfl) (by simp) ?_
        refine AllReadyH.cons rfl (fun K hK => ?_) AllReadyH.nil
        first | (rw [if_pos (by kernel_rfl)]) | skip
        go_simp
        refine (HA.out _ hok11).mono ?_
        rintro e v12 ⟨rfl, hb12⟩
        have hok12 : Below w4.heap.size w4 v12 := hok11.trans (hb12.mono hok11.size)
        clear hb12
        refine hK.out _ _ trivial (fun _ => ?_)
        try simp only [Act.put, List.setIfInBounds_toArray, List.set_cons_zero, List.set_cons_succ]
        clear hK K
        refine wpAnyH_ready (rs := [14]) (by kernel_rfl) (by simp) ?_
        refine AllReadyH.cons rfl (fun K hK => ?_) AllReadyH.nil
        first | (rw [if_pos (by kernel_rfl)]) | skip
        go_simp
        refine (HC.out _ hok12).mono ?_
        rintro e v13 ⟨rfl, hb13⟩
        have hok13 : Below w4.heap.size w4 v13 := hok12.trans (hb13.mono hok12.size)
        clear hb13
        refine hK.out _ _ trivial (fun _ => ?_)
        try simp only [Act.put, List.setIfInBounds_toArray, List.set_cons_zero, List.set_cons_succ]
        clear hK K
        refine wpAnyH_take (i := 15) (oi := ⟨some 61, _, _, _, _, _⟩) (v := .string S) rfl (by kernel_rfl) (by kernel_rfl) (by kernel_rfl) (fun _ _ _ h => h) (Or.inl ⟨by kernel_rfl, fun V _ => ?_⟩) trivial ?_
        · go_simp
        simp only [Act.put, List.setIfInBounds_toArray, List.set_cons_zero, List.set_cons_succ]
        refine wpAnyH_take (i := 17) (oi := ⟨some 63, _, _, _, _, _⟩) (v := .bool true) rfl (by kernel_rfl) (by kernel_rfl) (by kernel_rfl) (fun _ _ _ h => h) (Or.inl ⟨by kernel_rfl, fun V _ => ?_⟩) trivial ?_
        · go_simp
        simp only [Act.put, List.setIfInBounds_toArray, List.set_cons_zero, List.set_cons_succ]
        refine wpAnyH_take (i := 18) (oi := ⟨some 64, _, _, _, _, _⟩) (v := .bool true) rfl (by kernel_rfl) (by kernel_rfl) (by kernel_rfl) (fun _ _ _ h => h) (Or.inl ⟨by kernel_rfl, fun V _ => ?_⟩) trivial ?_
        · go_simp
        simp only [Act.put, List.setIfInBounds_toArray, List.set_cons_zero, List.set_cons_succ]
        refine wpAnyH_take (i := 19) (oi := ⟨some 4, _, _, _, _, _⟩) (v := .bool true) rfl (by kernel_rfl) (by kernel_rfl) (by kernel_rfl) (fun _ _ _ h => h) (Or.inl ⟨by kernel_rfl, fun V _ => ?_⟩) trivial ?_
        · go_simp
        simp only [Act.put, List.setIfInBounds_toArray, List.set_cons_zero, List.set_cons_succ]
        refine wpAnyH_done (by kernel_rfl) ?_ _
        go_wp2_with fail
        go_ret
        exact ⟨rfl, HB4.out.trans (hok13.mono HB4.out.size)⟩
end Go.Proofs.YthncpnopplhlkaaDoor
