/-
  The walk of laws.FnPeopleFrom.
-/
import Derived.Test.YthncpnopplhlkaaDoorDrawPF
import Derived.Test.YthncpnopplhlkaaDoorPfS
import Derived.Test.YthncpnopplhlkaaDoorPfI
import Derived.Test.YthncpnopplhlkaaDoorSameP
import Derived.Test.YthncpnopplhlkaaDoorErrLaid
namespace Go.Proofs.YthncpnopplhlkaaDoor
open Go.RowKit

theorem pf_long_ (S : ByteArray) : pfB (S ++ ⟨#[32]⟩).data.toList = false := by
  have e : (S ++ ⟨#[32]⟩ : ByteArray).data.toList = S.data.toList ++ [32] := by rw [ByteArray.data_append, Array.toList_append]
  rw [e, Bool.eq_false_iff]
  intro h
  obtain ⟨u, hu, _⟩ := pf_last h (by simp)
  have := List.append_inj_right' hu rfl
  simp at this
theorem pf_back {S : ByteArray} (h : pfB S.data.toList = true) : pplB (pfL S.data.toList) = true ∧ tp (pfL S.data.toList) = S := by
  by_cases hn : S.data.toList = []
  · rw [hn, pfl_nil]
    exact ⟨rfl, tp_of (by rw [hn]; rfl)⟩
  · have h0 := pf_t h hn
    refine ⟨h0.1, tp_of ?_⟩
    unfold tpL
    rw [if_pos h0.1, h0.2.1, h0.2.2.1]

set_option maxHeartbeats 2000000 in
theorem peopleFrom (a0 : Option Addr) (b0 o0 cap0 : Nat) (xs0 : List Int) (w : World) (hr0 : Row .u8 w a0 b0 o0 xs0) (hl0 : xs0.length ≤ cap0 ∧ cap0 ≤ 9223372036854775807) (hw0 : ∀ i, i < xs0.length → (Lit.int .u8 (xs0.getD i 0)).wf = true) (ht : LibL w) :
    Calls Tryd.prog 7 #[.slice a0 xs0.length cap0] w fun e w' => e = .returned (.bool true) ∧ Below w.heap.size w w' := by
  have HP := Lib.hid ht
  have HD := Lib.hid (drawPF a0 b0 o0 cap0 xs0 w hr0 hl0 hw0)
  clear hr0 hw0 ht
  by_cases hbig : 1048576 < xs0.length
  · go_enter Tryd.func7, Tryd.ntmps7
    go_wp2_with fail
    go_ret
    exact ⟨rfl, Below.refl _ _⟩
  · have hs0 : xs0.length ≤ 1048576 := by omega
    clear hbig
    go_enter Tryd.func7, Tryd.ntmps7
    go_wp2_with fail
    refine (HD.out).mono ?_
    rintro e w1 ⟨S, rfl, hS, hb1⟩
    have HB1 := Lib.hid hb1
    have HP1 := Lib.hid (HP.out.keep hb1 (Nat.le_refl _))
    clear hb1
    have HI := Lib.hid (fun (X : ByteArray) (hX : X.size ≤ 1000) (W : World) (h : LibL W) => pfI X (by omega) W h.2 h.1)
    unfold PfP at HI
    have HSS := Lib.hid (fun (W : World) => pfS S (by omega) W)
    have HII := Lib.hid (fun (W : World) (h : LibL W) => HI.out S (by omega) W h)
    unfold PfP at HSS
    have HLO := Lib.hid (pf_long_ S)
    cases hok : pfB S.data.toList with
    | false =>
      rw [hok] at HSS HII
      have htf : pfL S.data.toList = [] := pf_f hok
      rw [htf] at HSS HII
      clear hok htf
      go_wp2_with fail
      refine (HII.out w1 HP1.out).mono ?_
      rintro e w2 ⟨v2, rfl, hm2, hb2⟩
      obtain ⟨a2, t2, c2, rfl, k1, k2, -, htab2⟩ := hm2.ppl
      have HT2 := Lib.hid htab2
      have HB2 := Lib.hid (HB1.out.trans (hb2.mono HB1.out.size))
      clear hm2 hb2 htab2
      go_wp2_with fail
      refine (HSS.out w2).mono ?_
      rintro e w3 ⟨v3, rfl, hm3, hb3⟩
      obtain ⟨a3, t3, c3, rfl, k3, k4, -, htab3⟩ := hm3.ppl
      have HT3 := Lib.hid htab3
      have HT23 := Lib.hid (HT2.out.keep hb3 (Nat.le_refl _))
      have HB3 := Lib.hid (HB2.out.trans (hb3.mono HB2.out.size))
      clear hm3 hb3 htab3
      go_wp2_with fail
      refine (samePpl_yes a2 a3 t2 0 c2 t3 0 c3 [] w3 HT23.out HT3.out (by simp)).mono ?_
      rintro e w4 ⟨rfl, q, rfl⟩
      have HB4 := Lib.hid (HB3.out.trans ((below_draws w3 q).mono HB3.out.size))
      have HT24 := Lib.hid (HT23.out.keep (below_draws w3 q) (Nat.le_refl _))
      have HT4 := Lib.hid (HT3.out.keep (below_draws w3 q) (Nat.le_refl _))
      go_wp2_with fail
      refine (samePpl_yes a2 a3 t2 0 c2 t3 0 c3 [] _ HT24.out HT4.out (by simp)).mono ?_
      rintro e w5 ⟨rfl, q5, rfl⟩
      have HB5 := Lib.hid (HB4.out.trans ((below_draws (w3.drewN q) q5).mono HB4.out.size))
      go_wp2_with fail
      go_ret
      first | exact ⟨rfl, HB5.out⟩ | (rw [← World.drewN_add]; exact ⟨rfl, HB5.out⟩) | (have := HB5.out; rw [World.drewN_drewN] at this; exact ⟨rfl, this⟩)
    | true =>
      obtain ⟨hv, htt⟩ := pf_back hok
      rw [hok] at HSS HII
      obtain ⟨T, hT⟩ : ∃ T, pfL S.data.toList = T := ⟨_, rfl⟩
      rw [hT] at HSS HII hv htt
      have HV := Lib.hid hv
      have HTT := Lib.hid htt
      clear hok hT hv htt
      go_wp2_with fail
      refine (HII.out w1 HP1.out).mono ?_
      rintro e w2 ⟨v2, rfl, hm2, hb2⟩
      obtain ⟨a2, t2, c2, rfl, k1, k2, -, htab2⟩ := hm2.ppl
      have HT2 := Lib.hid htab2
      have HB2 := Lib.hid (HB1.out.trans (hb2.mono HB1.out.size))
      have HP2 := Lib.hid (HP1.out.keep hb2 (Nat.le_refl _))
      clear hm2 hb2 htab2
      go_wp2_with fail
      refine (HSS.out w2).mono ?_
      rintro e w3 ⟨v3, rfl, hm3, hb3⟩
      obtain ⟨a3, t3, c3, rfl, k3, k4, -, htab3⟩ := hm3.ppl
      have HT3 := Lib.hid htab3
      have HT23 := Lib.hid (HT2.out.keep hb3 (Nat.le_refl _))
      have HB3 := Lib.hid (HB2.out.trans (hb3.mono HB2.out.size))
      have HP3 := Lib.hid (HP2.out.keep hb3 (Nat.le_refl _))
      clear hm3 hb3 htab3
      go_wp2_with fail
      refine (samePpl_yes a2 a3 t2 0 c2 t3 0 c3 T w3 HT23.out HT3.out (by omega)).mono ?_
      rintro e w4 ⟨rfl, q, rfl⟩
      have HT24 := Lib.hid (HT23.out.keep (below_draws w3 q) (Nat.le_refl _))
      have HB4 := Lib.hid (HB3.out.trans ((below_draws w3 q).mono HB3.out.size))
      have HP4 := Lib.hid (HP3.out.keep (below_draws w3 q) (Nat.le_refl _))
      have hsl : S.size + ((⟨#[32]⟩ : ByteArray)).size ≤ 1000 := by show S.size + 1 ≤ 1000; omega
      go_wp2_with fail
      obtain ⟨S1, hS1⟩ : ∃ S1, S ++ (⟨#[32]⟩ : ByteArray) = S1 := ⟨_, rfl⟩
      have hsl1 : S1.size ≤ 1000 := by rw [← hS1, ByteArray.size_append]; exact hsl
      rw [hS1] at HLO
      rw [hS1]
      refine (HI.out S1 (by omega) _ HP4.out).mono ?_
      rw [HLO.out]
      rintro e w6 ⟨v6, rfl, hm6, hb6⟩
      have HT6 := Lib.hid (HT24.out.keep hb6 (Nat.le_refl _))
      have HB6 := Lib.hid (HB4.out.trans (hb6.mono HB4.out.size))
      have HP6 := Lib.hid (HP4.out.keep hb6 (Nat.le_refl _))
      clear hm6 hb6
      go_wp2_with fail
      refine (peopleI a2 t2 0 c2 T w6 HT6.out (by omega)).mono ?_
      rw [HV.out]
      rintro e w7 ⟨rfl, hb7⟩
      have HT7 := Lib.hid (HT6.out.keep hb7 (Nat.le_refl _))
      have HB7 := Lib.hid (HB6.out.trans (hb7.mono HB6.out.size))
      have HP7 := Lib.hid (HP6.out.keep hb7 (Nat.le_refl _))
      clear hb7
      go_wp2_with fail
      refine (peopleTextI a2 t2 0 c2 T w7 HT7.out (by omega) HP7.out.1).mono ?_
      rw [HTT.out]
      rintro e w8 ⟨rfl, hb8⟩
      have HB8 := Lib.hid (HB7.out.trans (hb8.mono HB7.out.size))
      clear hb8
      go_wp2_with fail
      go_ret
      exact ⟨rfl, HB8.out⟩
end Go.Proofs.YthncpnopplhlkaaDoor
